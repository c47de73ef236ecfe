/-
  Every Clear and every Better is the document's; the lists stay as they were; and again, when the same memory holds others.
  No condition beyond the statement's own.
-/
import Derived.Test.YtpikmcapnmdmbaaWx
import Derived.Test.YtpikmcapnmdmbaaYb
namespace Go.Proofs.Ytpikmcapnmdmbaa.lawBarterClears
open Go.RowKit Go.K Go.Maps Go.ChangeShapes Go.WideShapes Go.ChangeAt
set_option linter.unusedVariables false
set_option linter.unusedSimpArgs false
set_option maxRecDepth 100000 in
set_option maxHeartbeats 2000000 in
theorem walk (it : Wl) (wa : Option Addr) (wc : Nat) (ws : List Wl) (e x y : Int) (w : World) (hit : WlOk w it) (hws : WsOk w wa ws) (hwm : ws.length ≤ 17592186043904) (hwn : wa = none → ws.length = 0 ∧ wc = 0)
    (he : -9223372036854775808 ≤ e ∧ e ≤ 9223372036854775807) (hx : -9223372036854775808 ≤ x ∧ x ≤ 9223372036854775807) (hy : -9223372036854775808 ≤ y ∧ y ≤ 9223372036854775807) :
    Calls Try.prog 5 #[it.v, .slice wa ws.length wc, .int .i64 e, .int .i64 x, .int .i64 y] w fun r w' => r = .returned (.bool true) ∧ Below w.heap.size w w' := by
  obtain ⟨ia, ic, is⟩ := it
  have him := hit.mx
  unfold Wl.v
  simp only at him ⊢
  have HI := Lib.hid hit
  have HW := Lib.hid hws
  clear hit hws hwn he hx hy
  go_enter Try.func5, Try.ntmps5
  have K11 := Lib.hid (many_any ia ic is wa wc ws w him hwm HW.out)
  go_wp2_with fail
  refine K11.out.mono ?_
  rintro r0 w2 ⟨⟨b, rfl, hb⟩, rfl⟩
  clear K11
  cases b with
  | true =>
    go_wp2
    go_ret
    exact ⟨rfl, Below.refl _ _⟩
  | false =>
    have htot := hb rfl
    have hil : is.length ≤ 3000 := by omega
    have hwl : ws.length ≤ 3000 := by omega
    have HTL := Lib.hid (show ∀ y ∈ ws, y.l.length ≤ 1000000 from fun y hy => by have := total_le y hy; omega)
    clear hb htot
    have K13 := Lib.hid (lent_any2 ia ic is w (by omega) HI.out.sl HI.out.nil HI.out.wf)
    go_wp2_with fail
    refine K13.out.mono ?_
    rintro r0 w3 ⟨aa, ac, rfl, hy, hb⟩
    have HB3 := Lib.hid hb
    obtain ⟨ga, hga, hg0, hg1, _⟩ := hy.at'
    obtain rfl : aa = some ⟨ga, 0, none⟩ := hga
    have HY := Lib.hid hy
    have HG1 := Lib.hid hg1
    have HG0 := Lib.hid hg0
    have K14 := Lib.hid (lentAll_any wa wc ws w3 (by omega) (HW.out.kept hb) HTL.out)
    clear hy hb K13 hg0 hg1
    go_wp2_with fail
    refine K14.out.mono ?_
    rintro r0 w4 ⟨ba, bc, ms, rfl, hml, hms, hb⟩
    have HB4 := Lib.hid (HB3.out.trans (hb.mono HB3.out.size))
    have HY4 := Lib.hid (HY.out.below hb)
    have HMS := Lib.hid (show LentW (ga + 1) w4 ba bc ms from ⟨by obtain ⟨gm, h1, h2⟩ := hms.row; exact ⟨gm, owns_base h1 HG1.out, h2⟩, fun x hx => (hms.each x hx).base HG1.out, hms.inc⟩)
    have HMN := Lib.hid (show ms.length = ws.length by have := congrArg List.length hml; simpa using this)
    have HIS := Lib.hid (show is.length = is.length from rfl)
    clear hb hms hml HY HG1 K14 HB3 HTL HI HW him hwm
    generalize hn : is.length = n at hil HIS ⊢
    generalize hm : ws.length = m at hwl HMN ⊢
    have HN := Lib.hid hn
    clear hn hm
    go_wp2
    go_loopw [13, 14, 15, 16, 17, 18, 19, 20, 21, 22, 23, 24, 25, 26, 27] (fun v13 x14 x15 x16 x17 x18 x19 x20 x21 x22 x23 x24 x25 x26 x27 wr => ∃ (t : Nat) (is : List Int) (ms : List Wl), t ≤ 3 ∧ v13 = .int .i64 t ∧ is.length = n ∧ ms.length = m ∧
        LentL w.heap.size wr ⟨some ⟨ga, 0, none⟩, ac, is⟩ ∧ LentW (ga + 1) wr ba bc ms ∧ Below w.heap.size w wr) (fun v13 _ _ _ _ _ _ _ _ _ _ _ _ _ _ _ => 3 - (intOf v13).toNat)
    case atStart => exact ⟨0, is, ms, by omega, rfl, HN.out, HMN.out, HY4.out, HMS.out, HB4.out⟩
    case round =>
      clear HY4 HMS HB4 HMN HN HIS
      obtain ⟨t, is, ms, ht, rfl, hn, hm, hL, hW, hb⟩ := hrel
      subst hn hm
      have HL := Lib.hid hL
      have HW := Lib.hid hW
      have HB := Lib.hid hb
      clear hL hW hb
      by_cases htl : t < 3
      · have t0 : decide ((t : Int) < 3) = true := by simp; omega
        have hn6 : is.length ≤ 1000000 := by omega
        have hn9 : is.length ≤ 900000 := by omega
        have hm6 : ms.length ≤ 1000000 := by omega
        have K13 := Lib.hid (lent_any2 (some ⟨ga, 0, none⟩) ac is wr hn6 HL.out.ok.sl HL.out.ok.nil HL.out.wf)
        obtain ⟨w3, hw3⟩ : ∃ W, W = wr := ⟨_, rfl⟩
        subst hw3
        go_wp2_with fail
        refine K13.out.mono ?_
        rintro r0 w4 ⟨ya, yc, rfl, hy, hb4⟩
        have HY4 := Lib.hid hy
        have HB4 := Lib.hid (HB.out.trans (hb4.mono HB.out.size))
        have HL4 := Lib.hid (HL.out.below hb4)
        have HW4 := Lib.hid (HW.out.below hb4)
        clear hy hb4 K13
        have K14 := Lib.hid (lentAll_any ba bc ms w4 hm6 HW4.out.ok (fun x hx => (HW4.out.each x hx).mx))
        go_wp2_with fail
        refine K14.out.mono ?_
        rintro r0 w5 ⟨a5, c5, ms5, rfl, hml5, hms5, hb5⟩
        have HM5 := Lib.hid hml5
        have HMS5 := Lib.hid hms5
        have HML5 := Lib.hid (show ms5.length = ms.length by have := congrArg List.length hml5; simpa using this)
        have HB5 := Lib.hid (HB4.out.trans (hb5.mono HB4.out.size))
        have HL5 := Lib.hid (HL4.out.below hb5)
        have HW5 := Lib.hid (HW4.out.below hb5)
        have HY5 := Lib.hid (HY4.out.below hb5)
        clear hml5 hms5 hb5 K14 HL4 HW4 HY4
        go_wp2_with fail
        refine (clear_ans hn6 HL5.out.ok.sl HL5.out.wf HW5.out.ok rfl).mono ?_
        rintro r0 w6 ⟨s3, s4, s5, rfl, hans6⟩
        have HA6 := Lib.hid hans6
        have HB6 := Lib.hid (HB5.out.trans (hans6.2.mono HB5.out.size))
        have HL6 := Lib.hid (HL5.out.below hans6.2)
        have HW6 := Lib.hid (HW5.out.below hans6.2)
        have HY6 := Lib.hid (HY5.out.below hans6.2)
        have HMS6 := Lib.hid (HMS5.out.below hans6.2)
        clear hans6 HL5 HW5 HY5 HMS5
        go_wp2_with fail
        refine (rclear_ans hn9 HY6.out.ok.sl HY6.out.wf HMS6.out.ok HML5.out).mono ?_
        rintro r0 w7 ⟨u3, u4, u5, rfl, hans7⟩
        have HB7 := Lib.hid (HB6.out.trans (hans7.2.mono HB6.out.size))
        have HL7 := Lib.hid (HL6.out.below hans7.2)
        have HW7 := Lib.hid (HW6.out.below hans7.2)
        have HY7 := Lib.hid (HY6.out.below hans7.2)
        have HMS7 := Lib.hid (HMS6.out.below hans7.2)
        obtain ⟨z, hz1, hz2, hsame⟩ := clears_same hn6 HM5.out.symm HA6.out hans7 hans7.2
        have HSM := Lib.hid hsame
        subst hz1 hz2
        clear hans7 hsame HL6 HW6 HY6 HMS6 HA6
        go_wp2_with fail
        refine (told_gen (some ⟨ga, 0, none⟩) ac is ba bc ms e x y w7 hn6 HL7.out.ok.sl HL7.out.wf HW7.out.ok).mono ?_
        rintro r0 w8 ⟨rfl, hb8⟩
        have HB8 := Lib.hid (HB7.out.trans (hb8.mono HB7.out.size))
        have HT8 := Lib.hid hb8
        have HL8 := Lib.hid (HL7.out.below hb8)
        have HW8 := Lib.hid (HW7.out.below hb8)
        have HY8 := Lib.hid (HY7.out.below hb8)
        have HMS8 := Lib.hid (HMS7.out.below hb8)
        clear hb8 HL7 HW7 HY7 HMS7
        have K16 := Lib.hid (better_gen ya yc is a5 c5 ms5 e x y w8 hn6 HY8.out.ok.sl HMS8.out.ok)
        rw [HM5.out, HML5.out] at K16
        generalize betV is (ms.map Wl.l) ms.length e x y = bb at K16 ⊢
        go_wp2_with fail
        refine K16.out.mono ?_
        rintro r0 w9 ⟨rfl, hb9⟩
        have HB9 := Lib.hid (HB8.out.trans (hb9.mono HB8.out.size))
        have HT9 := Lib.hid (HT8.out.trans (hb9.mono HT8.out.size))
        have HL9 := Lib.hid (HL8.out.below hb9)
        have HW9 := Lib.hid (HW8.out.below hb9)
        have HY9 := Lib.hid (HY8.out.below hb9)
        have HMS9 := Lib.hid (HMS8.out.below hb9)
        clear hb9 HL8 HW8 HY8 HMS8 K16
        have hzz : (z != z) = false := by simp
        have hbb : (bb != bb) = false := by simp
        have K23 := Lib.hid (fun V (h : Below w9.heap.size w9 V) => kept_true w.heap.size (some ⟨ga, 0, none⟩) ya ac yc is V (HL9.out.below h) (HY9.out.below h).ok.sl)
        have K24 := Lib.hid (show ∀ V (h : Below w9.heap.size w9 V), Calls Try.prog 24 #[.slice ba ms.length bc, .slice a5 ms.length c5] V fun e w' => e = .returned (.bool true) ∧ ∃ m, w' = V.drewN m from fun V h => by
          have h1 := keptAll_true (ga + 1) ba a5 bc c5 ms ms5 V hm6 (HW9.out.below h) (HMS9.out.below h).ok HM5.out.symm
          rwa [HML5.out] at h1)
        go_wp2_with fail
        refine ((HSM.out w9 HT9.out).1).mono ?_
        rintro r0 w10 ⟨rfl, q1, hq1⟩
        have HQ10 := Lib.hid (show Below w9.heap.size w9 w10 by rw [hq1]; exact (Qt.drewN _ q1).below _)
        clear hq1
        go_wp2_with fail
        refine ((HSM.out w10 (HT9.out.trans (HQ10.out.mono HT9.out.size))).2).mono ?_
        rintro r0 w11 ⟨rfl, q2, hq2⟩
        have HQ11 := Lib.hid (show Below w9.heap.size w9 w11 by rw [hq2]; exact HQ10.out.trans ((Qt.drewN _ q2).below _))
        clear hq2
        go_wp2_with fail
        refine (K23.out w11 HQ11.out).mono ?_
        rintro r0 w12 ⟨rfl, q3, hq3⟩
        have HQ12 := Lib.hid (show Below w9.heap.size w9 w12 by rw [hq3]; exact HQ11.out.trans ((Qt.drewN _ q3).below _))
        clear hq3
        go_wp2_with fail
        refine (K24.out w12 HQ12.out).mono ?_
        rintro r0 w13 ⟨rfl, q4, hq4⟩
        have HQ13 := Lib.hid (show Below w9.heap.size w9 w13 by rw [hq4]; exact HQ12.out.trans ((Qt.drewN _ q4).below _))
        have HL := Lib.hid (HL9.out.below HQ13.out)
        have HW := Lib.hid (HW9.out.below HQ13.out)
        have HB := Lib.hid (HB9.out.trans (HQ13.out.mono HB9.out.size))
        clear hq4 hzz hbb K23 K24 HSM HQ10 HQ11 HQ12 HQ13 HL9 HW9 HB9 HY9 HMS9 HT9 HT8 HB8 HB7 HB6 HB5 HB4 HM5 HML5
        go_upto_region 16 with fail
        go_cut [107] from 101 to 107 (fun s W => s = .bool (decide (t = 0 ∧ 1 < is.length)) ∧ w13 = W)
        case first =>
          by_cases ht0 : t = 0
          · have t1 : ((t : Int) == 0) = true := beq_iff_eq.2 (by omega)
            by_cases hn2 : 1 < is.length
            · have t2 : decide ((is.length : Int) > 1) = true := decide_eq_true (by omega)
              go_wp2
              go_meet
              exact ⟨by rw [decide_eq_true (And.intro ht0 hn2)], rfl⟩
            · have t2 : decide ((is.length : Int) > 1) = false := decide_eq_false (by omega)
              go_wp2
              go_meet
              exact ⟨by rw [decide_eq_false (fun h => hn2 h.2)], rfl⟩
          · have t1 : ((t : Int) == 0) = false := beq_eq_false_iff_ne.2 (by omega)
            go_wp2
            go_meet
            exact ⟨by rw [decide_eq_false (fun h => ht0 h.1)], rfl⟩
        case rest =>
        obtain ⟨rfl, hwc⟩ := hcut
        subst hwc
        go_upto_if 107 with fail
        go_cut [24] from 107 to 118 (fun s W => ∃ is' : List Int, is'.length = is.length ∧ LentL w.heap.size W ⟨some ⟨ga, 0, none⟩, ac, is'⟩ ∧ LentW (ga + 1) W ba bc ms ∧ Below w.heap.size w W)
        case first =>
          by_cases hsw : t = 0 ∧ 1 < is.length
          · rw [decide_eq_true hsw]
            have hn2 := hsw.2
            clear hsw
            have h0 : 0 < is.length := by omega
            have i0 : (0 : Int) < (is.length : Int) := by omega
            have i1 : (1 : Int) < (is.length : Int) := by omega
            obtain ⟨b0, o0, hb0, z0⟩ := int_at HL.out.ok.sl 0 h0
            obtain ⟨rfl, rfl⟩ : b0 = ga ∧ o0 = 0 := by injection hb0 with h1; injection h1 with h2 h3; exact ⟨h2.symm, h3.symm⟩
            obtain ⟨b1, o1, hb1, z1⟩ := int_at HL.out.ok.sl 1 hn2
            obtain ⟨rfl, rfl⟩ : b1 = b0 ∧ o1 = 0 := by injection hb1 with h1; injection h1 with h2 h3; exact ⟨h2.symm, h3.symm⟩
            have HF0 := Lib.hid (HL.out.wf _ (List.getElem_mem h0))
            have HF1 := Lib.hid (HL.out.wf _ (List.getElem_mem hn2))
            clear hb0 hb1
            rw [Nat.zero_add] at z0 z1
            generalize is[0] = v0 at z0 HF0
            generalize is[1] = v1 at z1 HF1
            obtain ⟨g1, cur1, nc1, hg1, hr1, hc1, h40, hnc, hset⟩ := HL.out.set 0 h0 v1 HF1.out
            obtain rfl : b1 = g1 := by injection hg1 with h1; injection h1 with h1
            have HS := Lib.hid hset
            have HR1 := Lib.hid hr1
            have H40 := Lib.hid h40
            have HC1 := Lib.hid hc1
            have HN1 := Lib.hid hnc
            clear hset hr1 hc1 h40 hg1 hnc
            go_wp2_with ((with_reducible refine at_store_op ?_); refine wpList_store_lit 3 b1 0 nc1 (.int .i64 v1) HR1.out sz3 HC1.out rfl HN1.out ?_ ?_ ?s1; exact rfl; exact rfl)
            intro w14 hp14
            have HL14 := Lib.hid (HS.out w14 hp14)
            have HW14 := Lib.hid (HW.out.past hp14 (by omega) HR1.out H40.out)
            have HB14 := Lib.hid (hp14.below HB.out HB.out.size HG0.out)
            clear hp14 HS HR1 H40 HC1 HN1
            obtain ⟨g2, cur2, nc2, hg2, hr2, hc2, h40, hnc, hset⟩ := HL14.out.set 1 (by rw [List.length_set]; exact hn2) v0 HF0.out
            obtain rfl : b1 = g2 := by injection hg2 with h1; injection h1 with h1
            have HS := Lib.hid hset
            have HR2 := Lib.hid hr2
            have H40 := Lib.hid h40
            have HC2 := Lib.hid hc2
            have HN2 := Lib.hid hnc
            clear hset hr2 hc2 h40 hg2 hnc
            go_wp2_with ((with_reducible refine at_store_op ?_); refine wpList_store_lit 3 b1 1 nc2 (.int .i64 v0) HR2.out sz3 HC2.out rfl HN2.out ?_ ?_ ?s2; exact rfl; exact rfl)
            intro w15 hp15
            have HL15 := Lib.hid (HS.out w15 hp15)
            have HW15 := Lib.hid (HW14.out.past hp15 (by omega) HR2.out H40.out)
            have HB15 := Lib.hid (hp15.below HB14.out HB14.out.size HG0.out)
            go_wp2
            go_meet
            exact ⟨(is.set 0 v1).set 1 v0, by rw [List.length_set, List.length_set], HL15.out, HW15.out, HB15.out⟩
          · rw [decide_eq_false hsw]
            go_wp2
            go_meet
            exact ⟨is, rfl, HL.out, HW.out, HB.out⟩
        case rest =>
        obtain ⟨is1, hn1, hL1, hW1, hB1⟩ := hcut
        obtain ⟨w14, h14⟩ : ∃ W, W = wc := ⟨_, rfl⟩
        subst h14
        have HN1 := Lib.hid hn1
        have HL1 := Lib.hid hL1
        have HW1 := Lib.hid hW1
        have HB1 := Lib.hid hB1
        clear hn1 hL1 hW1 hB1 HL HW HB
        go_wp2
        go_loopw [25] (fun i wq => ∃ (k : Nat) (is' : List Int), k ≤ is.length ∧ i = .int .i64 k ∧ is'.length = is.length ∧ LentL w.heap.size wq ⟨some ⟨ga, 0, none⟩, ac, is'⟩ ∧ LentW (ga + 1) wq ba bc ms ∧ Below w.heap.size w wq) (fun i _ => is.length - (intOf i).toNat)
        case atStart => exact ⟨0, is1, by omega, rfl, HN1.out, HL1.out, HW1.out, HB1.out⟩
        case round =>
          clear HN1 HL1 HW1 HB1
          obtain ⟨k, is2, hk, rfl, hn2, hL2, hW2, hB2⟩ := hrel
          have HN2 := Lib.hid hn2
          have HL2 := Lib.hid hL2
          have HW2 := Lib.hid hW2
          have HB2 := Lib.hid hB2
          clear hn2 hL2 hW2 hB2
          obtain ⟨w16, h16⟩ : ∃ W, W = wr := ⟨_, rfl⟩
          subst h16
          go_upto_region 21 with fail
          go_cut [126] from 119 to 126 (fun s W => s = .bool (decide (k < is.length ∧ 0 < t)) ∧ w16 = W)
          case first =>
            by_cases h1 : k < is.length
            · have t1 : decide ((k : Int) < (is.length : Int)) = true := decide_eq_true (by omega)
              by_cases h2 : 0 < t
              · have t2 : decide ((t : Int) > 0) = true := decide_eq_true (by omega)
                have t3 : decide (0 < t) = true := decide_eq_true h2
                go_wp2
                go_meet
                exact ⟨by rw [decide_eq_true (And.intro h1 h2)], rfl⟩
              · have t2 : decide ((t : Int) > 0) = false := decide_eq_false (by omega)
                have t3 : decide (0 < t) = false := decide_eq_false h2
                go_wp2
                go_meet
                exact ⟨by rw [decide_eq_false (fun h => h2 h.2)], rfl⟩
            · have t1 : decide ((k : Int) < (is.length : Int)) = false := decide_eq_false (by omega)
              go_wp2
              go_meet
              exact ⟨by rw [decide_eq_false (fun h => h1 h.1)], rfl⟩
          case rest =>
          obtain ⟨rfl, hwc⟩ := hcut
          subst hwc
          by_cases hgo : k < is.length ∧ 0 < t
          · rw [decide_eq_true hgo]
            have hki : k < is2.length := by rw [HN2.out]; exact hgo.1
            have i0 : (k : Int) < (is.length : Int) := by omega
            obtain ⟨b1, o1, hb1, z1⟩ := int_at HL2.out.ok.sl k hki
            obtain ⟨rfl, rfl⟩ : b1 = ga ∧ o1 = 0 := by injection hb1 with h1; injection h1 with h2 h3; exact ⟨h2.symm, h3.symm⟩
            rw [Nat.zero_add] at z1
            generalize is2[k] = v at z1
            clear hb1
            obtain ⟨r, hr⟩ : ∃ r, Int.tmod v 9 = r := ⟨_, rfl⟩
            have hr1 : -8 ≤ r ∧ r ≤ 8 := by rw [← hr]; exact tmod9 v
            have hv : (Lit.int .i64 (r + 10 * (k : Int))).wf = true := WalkArith.wf_i64 (by omega)
            obtain ⟨g1, cur1, nc1, hg1, hrw, hc1, h40, hnc, hset⟩ := HL2.out.set k hki _ hv
            obtain rfl : b1 = g1 := by injection hg1 with h1; injection h1 with h1
            have HS := Lib.hid hset
            have HR1 := Lib.hid hrw
            have H40 := Lib.hid h40
            have HC1 := Lib.hid hc1
            have HN1 := Lib.hid hnc
            clear hset hrw hc1 h40 hg1 hnc hv
            have e1 : wrap64 (10 * (k : Int)) = 10 * (k : Int) := by unfold wrap64; omega
            have e2 : wrap64 (r + 10 * (k : Int)) = r + 10 * (k : Int) := by unfold wrap64; omega
            go_wp2_with ((with_reducible refine at_store_op ?_); refine wpList_store_lit 3 b1 k nc1 (.int .i64 (r + 10 * (k : Int))) HR1.out sz3 HC1.out rfl HN1.out ?_ ?_ ?s3; exact rfl; exact rfl)
            intro w15 hp15
            have HL15 := Lib.hid (HS.out w15 hp15)
            have HW15 := Lib.hid (HW2.out.past hp15 (by omega) HR1.out H40.out)
            have HB15 := Lib.hid (hp15.below HB2.out HB2.out.size HG0.out)
            clear hp15 HS HR1 H40 HC1 HN1 e1 e2 hr hr1
            go_wp2
            go_roundw
            case rel => exact ⟨k + 1, is2.set k (r + 10 * (k : Int)), by omega, by go_num, by rw [List.length_set, HN2.out], HL15.out, HW15.out, HB15.out⟩
            case measure => simp [intOf]; omega
          · rw [decide_eq_false hgo]
            clear hgo hk
            go_wp2
            go_loopw [26, 27] (fun i x27 wq => ∃ (k : Nat) (ms' : List Wl), k ≤ ms.length ∧ i = .int .i64 k ∧ ms'.length = ms.length ∧ LentL w.heap.size wq ⟨some ⟨ga, 0, none⟩, ac, is2⟩ ∧ LentW (ga + 1) wq ba bc ms' ∧ Below w.heap.size w wq) (fun i _ _ => ms.length - (intOf i).toNat)
            case atStart => exact ⟨0, ms, by omega, rfl, rfl, HL2.out, HW2.out, HB2.out⟩
            case round =>
              clear HL2 HW2 HB2
              obtain ⟨j, ms3, hj, rfl, hm3, hL3, hW3, hB3⟩ := hrel
              have HM3 := Lib.hid hm3
              have HL3 := Lib.hid hL3
              have HW3 := Lib.hid hW3
              have HB3 := Lib.hid hB3
              clear hm3 hL3 hW3 hB3
              obtain ⟨w17, h17⟩ : ∃ W, W = wr := ⟨_, rfl⟩
              subst h17
              go_upto_region 25 with fail
              go_cut [147] from 140 to 147 (fun s W => s = .bool (decide (j < ms.length ∧ 0 < t)) ∧ w17 = W)
              case first =>
                by_cases h1 : j < ms.length
                · have t1 : decide ((j : Int) < (ms.length : Int)) = true := decide_eq_true (by omega)
                  by_cases h2 : 0 < t
                  · have t2 : decide ((t : Int) > 0) = true := decide_eq_true (by omega)
                    have t3 : decide (0 < t) = true := decide_eq_true h2
                    go_wp2
                    go_meet
                    exact ⟨by rw [decide_eq_true (And.intro h1 h2)], rfl⟩
                  · have t2 : decide ((t : Int) > 0) = false := decide_eq_false (by omega)
                    have t3 : decide (0 < t) = false := decide_eq_false h2
                    go_wp2
                    go_meet
                    exact ⟨by rw [decide_eq_false (fun h => h2 h.2)], rfl⟩
                · have t1 : decide ((j : Int) < (ms.length : Int)) = false := decide_eq_false (by omega)
                  go_wp2
                  go_meet
                  exact ⟨by rw [decide_eq_false (fun h => h1 h.1)], rfl⟩
              case rest =>
              obtain ⟨rfl, hwc⟩ := hcut
              subst hwc
              by_cases hgo : j < ms.length ∧ 0 < t
              · rw [decide_eq_true hgo]
                have hjm := hgo.1
                clear hgo
                obtain ⟨lens, hlens⟩ : ∃ lens, ms3.map (fun x => x.l.length) = lens := ⟨_, rfl⟩
                have HLE := Lib.hid hlens
                have HLL := Lib.hid (show lens.length = ms.length by rw [← hlens, List.length_map]; exact HM3.out)
                have hjl : j < lens.length := by rw [HLL.out]; exact hjm
                obtain ⟨L, hL⟩ : ∃ L, lens[j] = L := ⟨_, rfl⟩
                have HLJ := Lib.hid hL
                have HMX := Lib.hid (show L ≤ 1000000 from by
                  have h1 := (HW3.out.each _ (List.getElem_mem (show j < ms3.length by rw [HM3.out]; exact hjm))).mx
                  rw [← hL]
                  subst hlens
                  rw [List.getElem_map]; exact h1)
                have hLm := HMX.out
                clear hlens hL
                go_wp2
                go_loopw [27] (fun i wq => ∃ (q : Nat) (ms' : List Wl), q ≤ L ∧ i = .int .i64 q ∧ ms'.map (fun x => x.l.length) = lens ∧ LentL w.heap.size wq ⟨some ⟨ga, 0, none⟩, ac, is2⟩ ∧ LentW (ga + 1) wq ba bc ms' ∧ Below w.heap.size w wq) (fun i _ => L - (intOf i).toNat)
                case atStart => exact ⟨0, ms3, by omega, rfl, HLE.out, HL3.out, HW3.out, HB3.out⟩
                case round =>
                  clear HL3 HW3 HB3 HLE HM3
                  obtain ⟨q, ms4, hq, rfl, hm4, hL4, hW4, hB4⟩ := hrel
                  have HM4 := Lib.hid (show ms4.length = ms.length by have := congrArg List.length hm4; rw [List.length_map, HLL.out] at this; exact this)
                  have hj4 : j < ms4.length := by rw [HM4.out]; exact hjm
                  have HQ4 := Lib.hid (show ms4[j].l.length = L by rw [← HLJ.out]; subst hm4; rw [List.getElem_map])
                  have HE4 := Lib.hid hm4
                  have HL4 := Lib.hid hL4
                  have HW4 := Lib.hid hW4
                  have HB4 := Lib.hid hB4
                  clear hm4 hL4 hW4 hB4
                  obtain ⟨gb, hgb, _, _, _⟩ := HW4.out.at'
                  obtain ⟨b1, o1, hb1, z0⟩ := HW4.out.ok.at' j hj4
                  obtain ⟨rfl, rfl⟩ : b1 = gb ∧ o1 = 0 := by rw [hgb] at hb1; injection hb1 with h1; injection h1 with h2 h3; exact ⟨h2.symm, h3.symm⟩
                  clear hb1
                  subst hgb
                  rw [HQ4.out, Nat.zero_add] at z0
                  have i0 : (j : Int) < (ms.length : Int) := by omega
                  by_cases hql : q < L
                  · have t1 : decide ((q : Int) < (L : Int)) = true := decide_eq_true (by omega)
                    have i1 : (q : Int) < (L : Int) := by omega
                    have hq4 : q < ms4[j].l.length := by rw [HQ4.out]; exact hql
                    obtain ⟨b2, o2, hb2, z1⟩ := int_at (HW4.out.each _ (List.getElem_mem hj4)).ok.sl q hq4
                    generalize ms4[j].l[q] = v at z1
                    obtain ⟨r, hr⟩ : ∃ r, Int.tmod v 9 = r := ⟨_, rfl⟩
                    have hr1 : -8 ≤ r ∧ r ≤ 8 := by rw [← hr]; exact tmod9 v
                    obtain ⟨f, hf⟩ : ∃ f, q % 5 = f := ⟨_, rfl⟩
                    have hf5 : f ≤ 4 := by omega
                    have hrem : Int.tmod (q : Int) 5 = (f : Int) := by rw [← hf]; exact tmod_nat q 5
                    have hv : (Lit.int .i64 (r + 10 * (f : Int))).wf = true := WalkArith.wf_i64 (by omega)
                    obtain ⟨g1, cur1, nc1, hg1, hgB, hrw, hc1, hnc, hset⟩ := HW4.out.setAt j hj4 q hq4 _ hv
                    obtain ⟨rfl, rfl⟩ : b2 = g1 ∧ o2 = 0 := by rw [hg1] at hb2; injection hb2 with h1; injection h1 with h2 h3; exact ⟨h2.symm, h3.symm⟩
                    rw [hg1] at z0
                    rw [Nat.zero_add] at z1
                    have HS := Lib.hid hset
                    have HSE := Lib.hid (show (ms4.set j ⟨ms4[j].a, ms4[j].c, ms4[j].l.set q (r + 10 * (f : Int))⟩).map (fun x => x.l.length) = lens by
                      rw [← HE4.out, List.map_set]
                      simp only [List.length_set]
                      have : ms4[j].l.length = (ms4.map (fun x => x.l.length))[j]'(by simpa using hj4) := by simp
                      rw [this, List.set_getElem_self])
                    have HR1 := Lib.hid hrw
                    have HC1 := Lib.hid hc1
                    have HN1 := Lib.hid hnc
                    have HGB := Lib.hid hgB
                    have hga1 : ga ≠ b2 := by omega
                    generalize ms4[j].c = xc at z0 HS HSE
                    generalize ms4[j].a = xa at HS HSE
                    generalize ms4.set j ⟨xa, xc, ms4[j].l.set q (r + 10 * (f : Int))⟩ = ms5 at HS HSE
                    have hx := HW4.out.ok
                    clear hset hrw hc1 hg1 hnc hv hgB hb2 hf hx hq4 HQ4
                    have e1 : IntKind.i64.wrap (10 * (f : Int)) = 10 * (f : Int) := by rw [IntKind.wrap_i64]; omega
                    have e2 : IntKind.i64.wrap (r + 10 * (f : Int)) = r + 10 * (f : Int) := by rw [IntKind.wrap_i64]; omega
                    have HE1 := Lib.hid e1
                    have HE2 := Lib.hid e2
                    have HR := Lib.hid hr
                    have HRM := Lib.hid hrem
                    clear e1 e2 hr hrem
                    go_wp2_with fail
                    refine wp_region_inv 18 (fun V => Qt wr V) (by kernel_rfl) (by kernel_rfl) (fun n => ⟨n, rfl⟩) ?_
                    simp only [List.take_succ_cons, List.take_zero]
                    iterate 18
                      apply wpInv_cons
                      · rfl
                      · intro Wx hw
                        have k0 := (hw.cell ⟨b1, j, none⟩).trans z0
                        have k1 := (hw.cell ⟨b2, q, none⟩).trans z1
                        go_simp
                        exact ⟨hw, rfl⟩
                      simp only [Act.put, List.setIfInBounds_toArray, List.set_cons_zero, List.set_cons_succ, HE1.out, HE2.out, HR.out, HRM.out]
                    refine wpInv_nil fun V hw => ?_
                    simp only [List.drop_succ_cons, List.drop_zero]
                    have hrV : V.heap[b2]? = some (.cells cur1 3 (0, 0)) := by rw [hw.heap]; exact HR1.out
                    have HV := Lib.hid hw
                    clear hw
                    (with_reducible refine at_store_op ?_); refine wpList_store_lit 3 b2 q nc1 (.int .i64 (r + 10 * (f : Int))) hrV sz3 HC1.out rfl HN1.out ?_ ?_ ?_; exact rfl; exact rfl
                    intro w18 hp18
                    have hp' : Put wr b2 (.cells nc1 3 (0, 0)) w18 := ⟨hp18.at', hp18.size.trans (by rw [HV.out.heap]), grown_trans (grown_below (HV.out.below _) _) hp18.grown⟩
                    have HW18 := Lib.hid (HS.out w18 hp')
                    have HL18 := Lib.hid (HL4.out.past hp' hga1)
                    have HB18 := Lib.hid (hp'.below HB4.out HB4.out.size (by have h1 := HG0.out; have h2 := HGB.out; omega))
                    clear hp' hp18 hrV
                    go_wp2
                    go_roundw
                    case rel => exact ⟨q + 1, ms5, by omega, by go_num, HSE.out, HL18.out, HW18.out, HB18.out⟩
                    case measure => simp [intOf]; omega
                  · have t1 : decide ((q : Int) < (L : Int)) = false := decide_eq_false (by omega)
                    go_wp2
                    go_roundw
                    case rel => exact ⟨j + 1, ms4, by omega, by go_num, HM4.out, HL4.out, HW4.out, HB4.out⟩
                    case measure => simp [intOf]; omega
              · rw [decide_eq_false hgo]
                clear hgo hj
                go_wp2
                go_roundw
                case rel => exact ⟨t + 1, is2, ms3, by omega, by go_num, HN2.out, HM3.out, HL3.out, HW3.out, HB3.out⟩
                case measure => simp [intOf]; omega
      · have t0 : decide ((t : Int) < 3) = false := by simp; omega
        go_wp2
        go_ret
        exact ⟨rfl, HB.out⟩
theorem own : ownKnob Try.prog.godebug = none := by kernel_rfl
theorem laidOut : laidOutB Try.prog = true := by kernel_rfl
set_option maxRecDepth 100000 in
theorem lifted (os : Os) (started : os.Started) (H : Type) (enc : TypeId × Value → H) :
    ReturnsInHanded {} Try.checked os 5 .any (Rows.barterClearsSpec.pre6 enc Try.prog Try.f5 Rows.barterClearsRow.domain false) (Rows.barterClearsSpec.post enc Try.prog Try.f5 false true false false) := by
  refine returnsInHanded_of_change_sized (C := Try.checked) own started (by kernel_rfl) Try.func5
    (ChangeSpec.witness6 (enc := enc) (C := Try.checked) false ⟨#[], #[.slice none 0 0, .slice none 0 0, .int .i64 0, .int .i64 0, .int .i64 0], []⟩ 8 (by kernel_rfl) (by kernel_rfl) (by kernel_rfl) (by kernel_rfl)) ?_
  intro W base args ds gs before hval0 hW hcnd hsz0 _
  have hsz : (DataW.weightsEach Try.prog (Try.f5.params.toList ++ Rows.barterClearsSpec.plain.varTypes Try.prog) (ds ++ gs)).all (· ≤ reachBytes) = true := hsz0
  clear hsz0
  have hval : ∀ (j : Nat) t v, Try.f5.params[j]? = some t → args[j]? = some v → Value.okWide Try.prog W .any base t v := hval0
  have hW' := hW
  obtain ⟨p, q, hA0, hV, rfl, hfz, hnd⟩ := hW
  have hA : DataW.TrodAll enc Try.prog W 0 (fun _ => true) true Try.f5.params.toList args.toList ds p := hA0
  rw [Try.params5] at hA hval hsz
  obtain ⟨v0, vs0, d0, ds0, p0, q0, hargs, rfl, rfl, h0, r0⟩ := trodAll_cons hA
  obtain ⟨v1, vs1, d1, ds1, p1, q1, rfl, rfl, rfl, h1, r1⟩ := trodAll_cons r0
  obtain ⟨v2, vs2, d2, ds2, p2, q2, rfl, rfl, rfl, h2, r2⟩ := trodAll_cons r1
  obtain ⟨v3, vs3, d3, ds3, p3, q3, rfl, rfl, rfl, h3, r3⟩ := trodAll_cons r2
  obtain ⟨v4, vs4, d4, ds4, p4, q4, rfl, rfl, rfl, h4, r4⟩ := trodAll_cons r3
  obtain ⟨rfl, rfl, rfl⟩ := trodAll_nil r4
  obtain rfl : args = #[v0, v1, v2, v3, v4] := by cases args; simp_all
  obtain ⟨rfl, rfl⟩ := trodVars_none hV
  have k0 := h0
  have lt0 : ∀ x ∈ p0, x.block < W.heap.size := by obtain ⟨m, hm⟩ := k0; exact DataW.trod_lt m _ _ _ hm
  obtain ⟨c0, rfl, n0⟩ := open_wl (hval 0 22 v0 rfl rfl) h0 hsz (j := 0) rfl rfl
  have k1 := h1
  have lt1 : ∀ x ∈ p1, x.block < W.heap.size := by obtain ⟨m, hm⟩ := k1; exact DataW.trod_lt m _ _ _ hm
  obtain ⟨a1, cap1, l1, rfl, n1, m1, z1⟩ := open_wls (hval 1 23 v1 rfl rfl) h1 hsz (j := 1) rfl rfl
  obtain ⟨a2, rfl, rfl, rfl, w2⟩ := open_int Try.underlying3 (hval 2 3 v2 rfl rfl) h2
  have b2 := i64_of_wf w2
  obtain ⟨a3, rfl, rfl, rfl, w3⟩ := open_int Try.underlying3 (hval 3 3 v3 rfl rfl) h3
  have b3 := i64_of_wf w3
  obtain ⟨a4, rfl, rfl, rfl, w4⟩ := open_int Try.underlying3 (hval 4 3 v4 rfl rfl) h4
  have b4 := i64_of_wf w4
  clear hA0 hval0
  refine (walk c0 a1 cap1 l1 a2 a3 a4 W n0 n1 m1 z1 b2 b3 b4).mono fun e W' ⟨he, bel⟩ => ?_
  subst he
  exact ⟨_, rfl, _, _, _, [], _, [], hW', trodAll_mk1 (shut_bool Try.underlying4 _), (trodAll_cons_mk (Below.trod laidOut (by kernel_rfl) (of_decide_eq_true (by kernel_rfl)) k0 bel lt0) (trodAll_cons_mk (Below.trod laidOut (by kernel_rfl) (of_decide_eq_true (by kernel_rfl)) k1 bel lt1) (trodAll_cons_mk (shut_int Try.underlying3 w2) (trodAll_cons_mk (shut_int Try.underlying3 w3) (trodAll_cons_mk (shut_int Try.underlying3 w4) trodAll_mk0))))), rfl, bel.frame _, fun h => by cases h⟩
theorem over : Rows.barterClearsRow.holds Try.pinned (OpenSpec.ofChange Rows.barterClearsSpec) :=
  OpenClaim.holds_of_wide 5 Try.f5 rfl rfl rfl rfl rfl rfl rfl ⟨rfl, rfl, rfl, rfl, rfl⟩ rfl rfl rfl rfl rfl (by kernel_rfl) Try.func5 (by kernel_rfl)
    (of_decide_eq_true (by kernel_rfl)) (by unfold Func.isWrapper; first | (rw [if_pos (by decide +kernel)]; kernel_rfl) | (rw [if_neg (by decide +kernel)]; exact ⟨rfl, rfl⟩))
    (fun os started H enc _ => lifted os started H enc)
theorem proved : Rows.BarterClearsSaid := over
#print axioms proved
end Go.Proofs.Ytpikmcapnmdmbaa.lawBarterClears
