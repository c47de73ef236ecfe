/-
  Of a contract that Terms takes: the mirror's entry ends it, and its own entry ends the mirror; the same gifts; who gets what; the mirror's mirror.
  No condition beyond the statement's own.
-/
import Derived.Test.YtiafhgcnjgpeaaaZh
import Derived.Deep.DeepCutAuto
import Derived.Deep.CutBlock
namespace Go.Proofs.Ytiafhgcnjgpeaaa.lawTradeDeal
open Go.RowKit Go.K Go.ChangeShapes Go.WideShapes Go.ChangeAt
set_option linter.unusedVariables false
set_option linter.unusedSimpArgs false
set_option maxRecDepth 100000 in
set_option maxHeartbeats 16000000 in
theorem walk (c : Con) (e : Ent) (w : World) (hc : ConOk w c) (he : EntOk w e) : Calls Try.prog 8 #[c.agg, e.agg] w fun r w' => r = .returned (.bool true) ∧ Below w.heap.size w w' := by
  have HC := Lib.hid hc
  have HE := Lib.hid he
  have HK17 := Lib.hid (fun V (h : Below w.heap.size w V) => terms_any c V (hc.kept h))
  have HK11 := Lib.hid (fun V (h : Below w.heap.size w V) => mirror_any c V (hc.kept h))
  have HK26 := Lib.hid (fun V (h : Below w.heap.size w V) => join_at c c e e V (hc.kept h) (he.kept h) rfl rfl)
  have HK19 := Lib.hid (fun V (h : Below w.heap.size w V) => back_any c V (hc.kept h))
  have t1 : (termsV c != termsV c) = false := by simp
  clear hc he
  unfold JoinsAs at HK26
  unfold Con.agg Ent.agg at *
  go_enter Try.func8, Try.ntmps8
  have HB0 := Lib.hid (((Below.refl w.heap.size w).alloc (Nat.le_refl _) (.cells #[.int .i64 c.num, .int .i64 c.kind, .int .i64 c.by', .int .i64 c.dl, .int .i64 c.to, .int .i64 c.want, .int .u64 c.price, .int .u64 c.reserve, .int .u64 c.step, .int .i64 c.of', .slice c.ea c.es.length c.ec] 25)).alloc (by simp) (.cells #[.int .i64 e.acc, .int .i64 e.item, .int .u64 e.coins, .int .u64 e.price, .slice e.wa e.ws.length e.wc] 44))
  go_wp2_with fail
  refine (awake_any _).mono ?_
  rintro r0 w1 ⟨rfl, hb1⟩
  have R1 := Lib.hid (show Box w1 w.heap.size c from row_kept (alloc_old (alloc_at rfl)) hb1)
  have E1 := Lib.hid (show EBox w1 (w.heap.size + 1) e from row_kept (alloc_at (by simp)) hb1)
  have HBw1 := Lib.hid (HB0.out.trans (hb1.mono (by simp; omega)))
  have SZw1 := Lib.hid (show w.heap.size + 2 ≤ w1.heap.size from by have := hb1.size; simp at this; omega)
  clear hb1
  obtain ⟨p0, p1, p2, p3, p4, p5, p6, p7, p8, p9, p10⟩ := R1.out.cells
  go_wp2_with fail
  refine (HK17.out _ HBw1.out).mono ?_
  rintro r0 w2 ⟨rfl, hb⟩
  clear p0 p1 p2 p3 p4 p5 p6 p7 p8 p9 p10
  have NB := Lib.hid (show Below w1.heap.size w1 w2 from hb)
  have SZw2 := Lib.hid NB.out.size
  have HBw2 := Lib.hid (HBw1.out.trans (NB.out.mono HBw1.out.size))
  have R1 := Lib.hid (R1.out.kept NB.out)
  have E1 := Lib.hid (E1.out.kept NB.out)
  clear NB hb
  obtain ⟨p0, p1, p2, p3, p4, p5, p6, p7, p8, p9, p10⟩ := R1.out.cells
  go_wp2_with fail
  refine (HK11.out _ HBw2.out).mono ?_
  rintro r0 w3 ⟨m, rfl, hmd, hnm, hb⟩
  clear p0 p1 p2 p3 p4 p5 p6 p7 p8 p9 p10
  have NB := Lib.hid (show Below w2.heap.size w2 w3 from hb)
  have SZw3 := Lib.hid NB.out.size
  have HBw3 := Lib.hid (HBw2.out.trans (NB.out.mono HBw2.out.size))
  have R1 := Lib.hid (R1.out.kept NB.out)
  have E1 := Lib.hid (E1.out.kept NB.out)
  clear NB hb
  have HMD := Lib.hid hmd
  have HNM := Lib.hid hnm
  have HRM := Lib.hid hnm.rn
  clear hmd hnm
  obtain ⟨p0, p1, p2, p3, p4, p5, p6, p7, p8, p9, p10⟩ := R1.out.cellsA
  obtain ⟨q0, q1, q2, q3, q4⟩ := E1.out.cellsA
  go_wp2_with (first
    | (go_at_call 13; refine (num_any _ _).mono ?_; rintro r0 w6 ⟨rfl, rfl⟩)
    | fail)
  refine (HK26.out _ (HBw3.out.alloc HBw3.out.size (.cells #[.int .i64 m.num, .int .i64 m.kind, .int .i64 m.by', .int .i64 m.dl, .int .i64 m.to, .int .i64 m.want, .int .u64 m.price, .int .u64 m.reserve, .int .u64 m.step, .int .i64 m.of', .slice m.ea m.es.length m.ec] 25))).mono ?_
  rintro r0 w4 ⟨d, la, lc, rfl, hd, hbd, hl, hln, hb⟩
  clear p0 p1 p2 p3 p4 p5 p6 p7 p8 p9 p10
  clear q0 q1 q2 q3 q4
  have RM := Lib.hid (show Box w4 w3.heap.size m from row_kept (alloc_at rfl) hb)
  have NB := Lib.hid (show Below w3.heap.size w3 w4 from ((Below.refl _ _).alloc (Nat.le_refl _) (.cells #[.int .i64 m.num, .int .i64 m.kind, .int .i64 m.by', .int .i64 m.dl, .int .i64 m.to, .int .i64 m.want, .int .u64 m.price, .int .u64 m.reserve, .int .u64 m.step, .int .i64 m.of', .slice m.ea m.es.length m.ec] 25)).trans (hb.mono (by simp)))
  have SZw4 := Lib.hid (show w3.heap.size + 1 ≤ w4.heap.size from by have := hb.size; simpa using this)
  have HBw4 := Lib.hid (HBw3.out.trans (NB.out.mono HBw3.out.size))
  have R1 := Lib.hid (R1.out.kept NB.out)
  have E1 := Lib.hid (E1.out.kept NB.out)
  have HNM := Lib.hid (HNM.out.kept NB.out)
  clear NB hb
  clear hl hln
  have HD := Lib.hid (And.intro hd hbd)
  clear hd hbd
  have SD := Lib.hid (fun V (h : (joinC c e).d = conZ.d) => same_true d conZ V ((HD.out.2.newC 0 V).ok) ((newC_conZ 0 V).ok) (HD.out.1.trans h))
  have SM := Lib.hid (fun V (h : Below w4.heap.size w4 V) (hz : mirD c = conZ.d) => same_true m conZ V ((HNM.out.kept h).ok) ((newC_conZ 0 V).ok) (HMD.out.trans hz))
  unfold conZ Con.agg at SD SM
  simp only [List.length_nil] at SD SM
  by_cases hT : termsV c = 0
  case neg =>
    have HT := Lib.hid hT
    have HJ := Lib.hid (joinV_a (e := e) hT)
    have j0 : (joinV c e != 0) = true := by rw [HJ.out]; simpa using hT
    have j1 : decide (joinV c e = 0) = false := by rw [HJ.out]; simpa using hT
    have j2 : (joinG c e) = [] := joinG_no (by rw [HJ.out]; exact hT)
    have j3 : (termsV c != 0) = true := by simpa using hT
    have j4 : (joinV c e == termsV c) = true := by rw [HJ.out]; simp
    have HCZ := Lib.hid (show (joinC c e).d = conZ.d from by rw [joinC_no (by rw [HJ.out]; exact hT)])
    have HMZ := Lib.hid (show mirD c = conZ.d from if_neg hT)
    clear hT
    rw [j1, j2]
    simp only [List.length_nil]
    have NB := Lib.hid ((Below.refl w4.heap.size w4).alloc (Nat.le_refl _) (.cells #[.int .i64 d.num, .int .i64 d.kind, .int .i64 d.by', .int .i64 d.dl, .int .i64 d.to, .int .i64 d.want, .int .u64 d.price, .int .u64 d.reserve, .int .u64 d.step, .int .i64 d.of', .slice d.ea d.es.length d.ec] 25))
    go_wp2_with (first
      | (go_at_call 13; refine (num_any _ _).mono ?_; rintro r0 w6 ⟨rfl, rfl⟩)
      | fail)
    refine (SD.out _ HCZ.out).mono ?_
    rintro r0 w5 ⟨rfl, hb⟩
    have NB5 := Lib.hid (NB.out.trans (hb.mono NB.out.size))
    have HB5 := Lib.hid (HBw4.out.trans (NB5.out.mono HBw4.out.size))
    have RM5 := Lib.hid (RM.out.kept NB5.out)
    clear hb
    obtain ⟨p0, p1, p2, p3, p4, p5, p6, p7, p8, p9, p10⟩ := RM5.out.cells
    go_wp2_with (first
      | (go_at_call 13; refine (num_any _ _).mono ?_; rintro r0 w6 ⟨rfl, rfl⟩)
      | fail)
    refine (SM.out _ NB5.out HMZ.out).mono ?_
    rintro r0 w6 ⟨rfl, hb⟩
    have HB6 := Lib.hid (HB5.out.trans (hb.mono HB5.out.size))
    clear hb
    go_wp2
    go_ret
    exact ⟨rfl, HB6.out⟩
  case pos =>
    have HT := Lib.hid hT
    obtain ⟨x, hx, hf⟩ := fit_of hT
    have HX := Lib.hid hx
    have HF := Lib.hid hf
    have HMO := Lib.hid (mirOf hT hx HMD.out HNM.out)
    have j3 : (termsV c != 0) = false := by simpa using hT
    clear hT hx hf
    rw [HT.out]
    go_upto_region 8 with fail
    go_cut [9, 10, 11, 67] from 43 to 67 (fun _ _ s11 s W => s11 = .int .i64 (joinV c e) ∧ s = .bool false ∧ Below w4.heap.size w4 W)
    case first =>
      by_cases hJ : joinV c e = 0
      · have j0 : (joinV c e != 0) = false := by simpa using hJ
        clear hJ
        go_wp2_with (first
          | (go_at_call 13; refine (num_any _ _).mono ?_; rintro r0 w6 ⟨rfl, rfl⟩)
          | fail)
        go_meet
        exact ⟨rfl, rfl, (Below.refl w4.heap.size w4).alloc (Nat.le_refl _) _⟩
      · have j0 : (joinV c e != 0) = true := by simpa using hJ
        have j1 : decide (joinV c e = 0) = false := by simpa using hJ
        have j2 : (joinG c e) = [] := joinG_no hJ
        have HCZ := Lib.hid (show (joinC c e).d = conZ.d from by rw [joinC_no hJ])
        clear hJ
        rw [j1, j2]
        simp only [List.length_nil]
        have NB := Lib.hid ((Below.refl w4.heap.size w4).alloc (Nat.le_refl _) (.cells #[.int .i64 d.num, .int .i64 d.kind, .int .i64 d.by', .int .i64 d.dl, .int .i64 d.to, .int .i64 d.want, .int .u64 d.price, .int .u64 d.reserve, .int .u64 d.step, .int .i64 d.of', .slice d.ea d.es.length d.ec] 25))
        go_wp2_with (first
          | (go_at_call 13; refine (num_any _ _).mono ?_; rintro r0 w6 ⟨rfl, rfl⟩)
          | fail)
        refine (SD.out _ HCZ.out).mono ?_
        rintro r0 w5 ⟨rfl, hb⟩
        have NB5 := Lib.hid (NB.out.trans (hb.mono NB.out.size))
        clear hb
        go_wp2
        go_meet
        exact ⟨rfl, rfl, NB5.out⟩
    case rest =>
      obtain ⟨rfl, rfl, hb⟩ := hcut
      clear SD SM
      obtain ⟨w5, h5⟩ : ∃ W, W = wc := ⟨_, rfl⟩
      subst h5
      have RM := Lib.hid (RM.out.kept hb)
      have R1 := Lib.hid (R1.out.kept hb)
      have E1 := Lib.hid (E1.out.kept hb)
      have HNM := Lib.hid (HNM.out.kept hb)
      have HBw5 := Lib.hid (HBw4.out.trans (hb.mono HBw4.out.size))
      have SZw5 := Lib.hid hb.size
      clear hb
      have k10 : w5.cell? ⟨w3.heap.size, 10, none⟩ = some (.slice m.ea 1 m.ec) := by obtain ⟨p0, p1, p2, p3, p4, p5, p6, p7, p8, p9, p10⟩ := RM.out.cells; rw [p10, HMO.out.es]; rfl
      have k11 : w5.cell? ⟨w.heap.size, 10, none⟩ = some (.slice c.ea 1 c.ec) := by obtain ⟨p0, p1, p2, p3, p4, p5, p6, p7, p8, p9, p10⟩ := R1.out.cells; rw [p10, HX.out]; rfl
      go_upto_region 14 with (go_at_call 13; refine (num_any _ _).mono ?_; rintro r0 w6 ⟨rfl, rfl⟩)
      go_cut [12] from 91 to 120 (fun s W => s = .bool (joinV c e == 0) ∧ Below w5.heap.size w5 W)
      case first =>
        obtain ⟨p0, p1, p2, p3, p4, p5, p6, p7, p8, p9, p10⟩ := R1.out.cells
        obtain ⟨q0, q1, q2, q3, q4⟩ := E1.out.cells
        by_cases h0 : e.acc = c.to
        case neg =>
          have b0 : (e.acc == c.to) = false := by simpa using h0
          have HN := Lib.hid (show (joinV c e == 0) = false from beq_eq_false_iff_ne.2 (fun h => h0 ((taken_of HT.out).1 h).1))
          clear h0
          go_wp2
          go_meet
          exact ⟨by rw [HN.out], Below.refl _ _⟩
        case pos =>
          have b0 : (e.acc == c.to) = true := by simpa using h0
          have H0 := Lib.hid h0
          clear h0
          by_cases h1 : e.item = c.want
          case neg =>
            have b1 : (e.item == c.want) = false := by simpa using h1
            have HN := Lib.hid (show (joinV c e == 0) = false from beq_eq_false_iff_ne.2 (fun h => h1 ((taken_of HT.out).1 h).2.1))
            clear h1
            go_wp2
            go_meet
            exact ⟨by rw [HN.out], Below.refl _ _⟩
          case pos =>
            have b1 : (e.item == c.want) = true := by simpa using h1
            have H1 := Lib.hid h1
            clear h1
            by_cases h2 : e.coins = c.price
            case neg =>
              have b2 : (e.coins == c.price) = false := by simpa using h2
              have HN := Lib.hid (show (joinV c e == 0) = false from beq_eq_false_iff_ne.2 (fun h => h2 ((taken_of HT.out).1 h).2.2.1))
              clear h2
              go_wp2
              go_meet
              exact ⟨by rw [HN.out], Below.refl _ _⟩
            case pos =>
              have b2 : (e.coins == c.price) = true := by simpa using h2
              have H2 := Lib.hid h2
              clear h2
              by_cases h3 : e.price = 0
              case neg =>
                have b3 : (e.price == 0) = false := by simpa using h3
                have HN := Lib.hid (show (joinV c e == 0) = false from beq_eq_false_iff_ne.2 (fun h => h3 ((taken_of HT.out).1 h).2.2.2.1))
                clear h3
                go_wp2
                go_meet
                exact ⟨by rw [HN.out], Below.refl _ _⟩
              case pos =>
                have b3 : (e.price == 0) = true := by simpa using h3
                have H3 := Lib.hid h3
                clear h3
                by_cases h4 : e.ws = []
                case neg =>
                  have b4 : ((e.ws.length : Int) == 0) = false := by cases hw : e.ws with | nil => exact absurd hw h4 | cons a l => exact beq_eq_false_iff_ne.2 (by simp; omega)
                  have HN := Lib.hid (show (joinV c e == 0) = false from beq_eq_false_iff_ne.2 (fun h => h4 ((taken_of HT.out).1 h).2.2.2.2))
                  clear h4
                  go_wp2
                  go_meet
                  exact ⟨by rw [HN.out], Below.refl _ _⟩
                case pos =>
                  have b4 : ((e.ws.length : Int) == 0) = true := by rw [h4]; rfl
                  have H4 := Lib.hid h4
                  clear h4
                  have HN := Lib.hid (show (joinV c e == 0) = true from beq_iff_eq.2 ((taken_of HT.out).2 ⟨H0.out, H1.out, H2.out, H3.out, H4.out⟩))
                  go_wp2
                  go_meet
                  exact ⟨by rw [HN.out], Below.refl _ _⟩
      case rest =>
        obtain ⟨rfl, hb⟩ := hcut
        obtain ⟨w6, h6⟩ : ∃ W, W = wc := ⟨_, rfl⟩
        subst h6
        have RM := Lib.hid (RM.out.kept hb)
        have R1 := Lib.hid (R1.out.kept hb)
        have HNM := Lib.hid (HNM.out.kept hb)
        have HBw6 := Lib.hid (HBw5.out.trans (hb.mono HBw5.out.size))
        have SZw6 := Lib.hid hb.size
        have u1 : ((joinV c e == 0) != (joinV c e == 0)) = false := by simp
        clear hb k10 k11 E1
        generalize joinV c e = jv at *
        go_upto_region 17 with (go_at_call 13; refine (num_any _ _).mono ?_; rintro r0 w6 ⟨rfl, rfl⟩)
        
        obtain ⟨yb, yo, hye, f0, f1, f2, f3, f4⟩ := HNM.out.ok.one HMO.out.es
        have k10 : w6.cell? ⟨w3.heap.size, 10, none⟩ = some (.slice (some ⟨yb, yo, none⟩) 1 m.ec) := by obtain ⟨p0, p1, p2, p3, p4, p5, p6, p7, p8, p9, p10⟩ := RM.out.cells; rw [p10, HMO.out.es, hye]; rfl
        obtain ⟨p0, p1, p2, p3, p4, p5, p6, p7, p8, p9, p10⟩ := R1.out.cells
        have n1 : w.heap.size ≠ w6.heap.size := Nat.ne_of_lt R1.out.lt
        have n2 : w3.heap.size ≠ w6.heap.size := Nat.ne_of_lt RM.out.lt
        have n3 : yb ≠ w6.heap.size := Nat.ne_of_lt (HNM.out.ok.sl.lt _ hye (by rw [HMO.out.es]; exact List.cons_ne_nil _ _))
        have HYE := Lib.hid hye
        clear hye
        simp only [dealY, List.length_nil] at f0 f1 f2 f3 f4
        have K26 := Lib.hid (fun V (h : Below w.heap.size w V) => join_at c c (dealY c) (dealY c) V (HC.out.kept h) ⟨Sl.nil _ _, Nat.le_refl _, Nat.zero_le _, fun _ => ⟨rfl, rfl⟩⟩ rfl rfl)
        have HG1 := Lib.hid (deal_one HT.out HX.out)
        have HD1 := Lib.hid (show (joinC c (dealY c)).d = c.less.d from by rw [show joinC c (dealY c) = c.less from if_pos (deal_join HT.out)])
        unfold JoinsAs at K26
        rw [deal_join HT.out, HD1.out] at K26
        generalize joinG c (dealY c) = G17 at K26 HG1
        obtain ⟨D17, HD17⟩ : ∃ D, D = c.less.d := ⟨_, rfl⟩
        rw [← HD17] at K26
        have HD17 := Lib.hid HD17
        unfold dealY Con.agg Ent.agg at K26
        simp only [List.length_nil, decide_true] at K26
        have hA : Below w.heap.size w w6.drew := below_drawn HBw6.out _
        have hA1 : Below w.heap.size w (World.drew (World.alloc w6 (.cells #[.int .i64 0, .int .i64 0, .int .i64 0, .int .i64 0, .int .i64 0, .int .i64 0, .int .u64 0, .int .u64 0, .int .u64 0, .int .i64 0, .slice none 0 0] 25))) := below_drawn (HBw6.out.alloc HBw6.out.size _) _
        go_cut [13, 14, 15, 16] from 126 to 136 (fun s13 s14 s15 s16 W' => DealEnd D17 G17 w6 s13 s14 s15 s16 W')
        case first =>
          go_region_held3 (fun V => V.cell? ⟨w.heap.size, 0, none⟩ = some (.int .i64 c.num) ∧ V.cell? ⟨w.heap.size, 1, none⟩ = some (.int .i64 c.kind) ∧ V.cell? ⟨w.heap.size, 2, none⟩ = some (.int .i64 c.by') ∧ V.cell? ⟨w.heap.size, 3, none⟩ = some (.int .i64 c.dl) ∧ V.cell? ⟨w.heap.size, 4, none⟩ = some (.int .i64 c.to) ∧ V.cell? ⟨w.heap.size, 5, none⟩ = some (.int .i64 c.want) ∧ V.cell? ⟨w.heap.size, 6, none⟩ = some (.int .u64 c.price) ∧ V.cell? ⟨w.heap.size, 7, none⟩ = some (.int .u64 c.reserve) ∧ V.cell? ⟨w.heap.size, 8, none⟩ = some (.int .u64 c.step) ∧ V.cell? ⟨w.heap.size, 9, none⟩ = some (.int .i64 c.of') ∧ V.cell? ⟨w.heap.size, 10, none⟩ = some (.slice c.ea c.es.length c.ec) ∧ V.cell? ⟨w3.heap.size, 10, none⟩ = some (.slice (some ⟨yb, yo, none⟩) 1 m.ec) ∧ V.cell? ⟨yb, yo, none⟩ = some (.int .i64 c.to) ∧ V.cell? ⟨yb, yo + 1, none⟩ = some (.int .i64 c.want) ∧ V.cell? ⟨yb, yo + 2, none⟩ = some (.int .u64 c.price) ∧ V.cell? ⟨yb, yo + 3, none⟩ = some (.int .u64 0) ∧ V.cell? ⟨yb, yo + 4, none⟩ = some (.slice none 0 0)) ((first | go_keep | (go_split_ands; (try dsimp only); (repeat' apply And.intro) <;> (first | exact keep11 (by assumption) n1 | exact keep11 (by assumption) n2 | exact keep11 (by assumption) n3))))
            (first
              | (go_at_call 26; (with_reducible refine (K26.out (World.drew w6) hA).mono ?_); rintro r0 y7 ⟨d7, la7, lc7, rfl, hd7, hbd7, hl7, hln7, hb7⟩; have b7 : Box y7 w.heap.size c := Box.kept (W := World.drew w6) (show Box (World.drew w6) w.heap.size c from R1.out) hb7; obtain ⟨p0, p1, p2, p3, p4, p5, p6, p7, p8, p9, p10⟩ := b7.cells; have f0 := below_cell hb7 (a := ⟨yb, yo, none⟩) (v := .int .i64 c.to) (by go_keep); have f1 := below_cell hb7 (a := ⟨yb, yo + 1, none⟩) (v := .int .i64 c.want) (by go_keep); have f2 := below_cell hb7 (a := ⟨yb, yo + 2, none⟩) (v := .int .u64 c.price) (by go_keep); have f3 := below_cell hb7 (a := ⟨yb, yo + 3, none⟩) (v := .int .u64 0) (by go_keep); have f4 := below_cell hb7 (a := ⟨yb, yo + 4, none⟩) (v := .slice none 0 0) (by go_keep); have k10 := below_cell hb7 (a := ⟨w3.heap.size, 10, none⟩) (v := .slice (some ⟨yb, yo, none⟩) 1 m.ec) (by go_keep))
              | (go_at_call 26; (with_reducible refine (K26.out (World.drew (World.alloc w6 (.cells #[.int .i64 0, .int .i64 0, .int .i64 0, .int .i64 0, .int .i64 0, .int .i64 0, .int .u64 0, .int .u64 0, .int .u64 0, .int .i64 0, .slice none 0 0] 25))) hA1).mono ?_); rintro r0 y7 ⟨d7, la7, lc7, rfl, hd7, hbd7, hl7, hln7, hb7⟩; have b7 : Box y7 w.heap.size c := Box.kept (W := World.drew (World.alloc w6 (.cells #[.int .i64 0, .int .i64 0, .int .i64 0, .int .i64 0, .int .i64 0, .int .i64 0, .int .u64 0, .int .u64 0, .int .u64 0, .int .i64 0, .slice none 0 0] 25))) (show Box (World.drew (World.alloc w6 (.cells #[.int .i64 0, .int .i64 0, .int .i64 0, .int .i64 0, .int .i64 0, .int .i64 0, .int .u64 0, .int .u64 0, .int .u64 0, .int .i64 0, .slice none 0 0] 25))) w.heap.size c from R1.out.alloc _) hb7; obtain ⟨p0, p1, p2, p3, p4, p5, p6, p7, p8, p9, p10⟩ := b7.cells; have f0 := below_cell hb7 (a := ⟨yb, yo, none⟩) (v := .int .i64 c.to) (by go_keep); have f1 := below_cell hb7 (a := ⟨yb, yo + 1, none⟩) (v := .int .i64 c.want) (by go_keep); have f2 := below_cell hb7 (a := ⟨yb, yo + 2, none⟩) (v := .int .u64 c.price) (by go_keep); have f3 := below_cell hb7 (a := ⟨yb, yo + 3, none⟩) (v := .int .u64 0) (by go_keep); have f4 := below_cell hb7 (a := ⟨yb, yo + 4, none⟩) (v := .slice none 0 0) (by go_keep); have k10 := below_cell hb7 (a := ⟨w3.heap.size, 10, none⟩) (v := .slice (some ⟨yb, yo, none⟩) 1 m.ec) (by go_keep); have hz7 : y7.heap[w6.heap.size]? = some (.cells #[.int .i64 0, .int .i64 0, .int .i64 0, .int .i64 0, .int .i64 0, .int .i64 0, .int .u64 0, .int .u64 0, .int .u64 0, .int .i64 0, .slice none 0 0] 25) := row_kept (show (World.drew (World.alloc w6 (.cells #[.int .i64 0, .int .i64 0, .int .i64 0, .int .i64 0, .int .i64 0, .int .i64 0, .int .u64 0, .int .u64 0, .int .u64 0, .int .i64 0, .slice none 0 0] 25))).heap[w6.heap.size]? = _ from alloc_at rfl) hb7; obtain ⟨z0, z1, z2, z3, z4, z5, z6, z7, z8, z9, z10⟩ := cells11 hz7; have fz0 := frozen_of_row _ _ 0 _ _ hz7; have fz1 := frozen_of_row _ _ 1 _ _ hz7; have fz2 := frozen_of_row _ _ 2 _ _ hz7; have fz3 := frozen_of_row _ _ 3 _ _ hz7; have fz4 := frozen_of_row _ _ 4 _ _ hz7; have fz5 := frozen_of_row _ _ 5 _ _ hz7; have fz6 := frozen_of_row _ _ 6 _ _ hz7; have fz7 := frozen_of_row _ _ 7 _ _ hz7; have fz8 := frozen_of_row _ _ 8 _ _ hz7; have fz9 := frozen_of_row _ _ 9 _ _ hz7; have fz10 := frozen_of_row _ _ 10 _ _ hz7))
          all_goals
            go_wp2_with fail
            go_meet
            first
              | with_reducible exact dealEndA hd7 hbd7 hl7 hln7 hb7
              | with_reducible exact dealEndB hd7 hbd7 hl7 hln7 hb7
        case rest =>
          obtain ⟨q, x1, la, lc, rfl, rfl, rfl, rfl, hbx, hdx, hbare, hol, hnl, hb, hqn⟩ := hcut
          obtain ⟨w7, h7⟩ : ∃ W, W = wc := ⟨_, rfl⟩
          subst h7
          have hbk : Below w6.heap.size w6 w7 := hb
          have RM := Lib.hid (RM.out.kept hbk)
          have R1 := Lib.hid (R1.out.kept hbk)
          have HNM := Lib.hid (HNM.out.kept hbk)
          have HBw7 := Lib.hid (HBw6.out.trans (hbk.mono HBw6.out.size))
          have SZw7 := Lib.hid hbk.size
          have RX := Lib.hid hbx
          have HXD := Lib.hid (hdx.trans HD17.out)
          have HXB := Lib.hid hbare
          have HO1 := Lib.hid hol
          have HRO1 := Lib.hid hol.lt
          have HQN := Lib.hid hqn
          have HQL := Lib.hid (show q < w7.heap.size from hbx.lt)
          clear hb hbk hbx hdx hbare hol hnl hqn f0 f1 f2 f3 f4 k10 n1 n2 n3 hA hA1 K26 p0 p1 p2 p3 p4 p5 p6 p7 p8 p9 p10 HYE
          go_upto_region 18 with fail
          obtain ⟨yb, yo, hye, f0, f1, f2, f3, f4⟩ := (HC.out.kept HBw7.out).one HX.out
          have k10 : w7.cell? ⟨w.heap.size, 10, none⟩ = some (.slice (some ⟨yb, yo, none⟩) 1 c.ec) := by obtain ⟨p0, p1, p2, p3, p4, p5, p6, p7, p8, p9, p10⟩ := R1.out.cells; rw [p10, HX.out, hye]; rfl
          obtain ⟨p0, p1, p2, p3, p4, p5, p6, p7, p8, p9, p10⟩ := RM.out.cells
          have n1 : w3.heap.size ≠ w7.heap.size := Nat.ne_of_lt RM.out.lt
          have n2 : w.heap.size ≠ w7.heap.size := Nat.ne_of_lt R1.out.lt
          have n3 : yb ≠ w7.heap.size := Nat.ne_of_lt ((HC.out.kept HBw7.out).sl.lt _ hye (by rw [HX.out]; exact List.cons_ne_nil _ _))
          have HYE := Lib.hid hye
          clear hye
          have K26 := Lib.hid (fun V (h : Below w7.heap.size w7 V) => join_at m m x x V (HNM.out.kept h).ok ((HC.out.kept (HBw7.out.trans (h.mono HBw7.out.size))).ents x (by rw [HX.out]; exact List.mem_cons_self ..)) rfl rfl)
          have HG2 := Lib.hid (deal_two HX.out HF.out HMO.out)
          have HJ2 := Lib.hid (mir_join HX.out HF.out HMO.out)
          have HD1 := Lib.hid (show (joinC m x).d = m.less.d from by rw [show joinC m x = m.less from if_pos HJ2.out])
          unfold JoinsAs at K26
          rw [HJ2.out, HD1.out] at K26
          generalize joinG m x = G18 at K26 HG2
          obtain ⟨D18, HD18⟩ : ∃ D, D = m.less.d := ⟨_, rfl⟩
          rw [← HD18] at K26
          have HD18 := Lib.hid HD18
          unfold Con.agg Ent.agg at K26
          simp only [decide_true] at K26
          have hA : Below w7.heap.size w7 w7.drew := below_drawn (Below.refl _ _) _
          have hA1 : Below w7.heap.size w7 (World.drew (World.alloc w7 (.cells #[.int .i64 0, .int .i64 0, .int .i64 0, .int .i64 0, .int .i64 0, .int .i64 0, .int .u64 0, .int .u64 0, .int .u64 0, .int .i64 0, .slice none 0 0] 25))) := below_drawn ((Below.refl w7.heap.size w7).alloc (Nat.le_refl _) _) _
          go_cut [17, 18, 19, 20] from 137 to 147 (fun s13 s14 s15 s16 W' => DealEnd D18 G18 w7 s13 s14 s15 s16 W')
          case first =>
            go_region_held3 (fun V => V.cell? ⟨w3.heap.size, 0, none⟩ = some (.int .i64 m.num) ∧ V.cell? ⟨w3.heap.size, 1, none⟩ = some (.int .i64 m.kind) ∧ V.cell? ⟨w3.heap.size, 2, none⟩ = some (.int .i64 m.by') ∧ V.cell? ⟨w3.heap.size, 3, none⟩ = some (.int .i64 m.dl) ∧ V.cell? ⟨w3.heap.size, 4, none⟩ = some (.int .i64 m.to) ∧ V.cell? ⟨w3.heap.size, 5, none⟩ = some (.int .i64 m.want) ∧ V.cell? ⟨w3.heap.size, 6, none⟩ = some (.int .u64 m.price) ∧ V.cell? ⟨w3.heap.size, 7, none⟩ = some (.int .u64 m.reserve) ∧ V.cell? ⟨w3.heap.size, 8, none⟩ = some (.int .u64 m.step) ∧ V.cell? ⟨w3.heap.size, 9, none⟩ = some (.int .i64 m.of') ∧ V.cell? ⟨w3.heap.size, 10, none⟩ = some (.slice m.ea m.es.length m.ec) ∧ V.cell? ⟨w.heap.size, 10, none⟩ = some (.slice (some ⟨yb, yo, none⟩) 1 c.ec) ∧ V.cell? ⟨yb, yo, none⟩ = some (.int .i64 x.acc) ∧ V.cell? ⟨yb, yo + 1, none⟩ = some (.int .i64 x.item) ∧ V.cell? ⟨yb, yo + 2, none⟩ = some (.int .u64 x.coins) ∧ V.cell? ⟨yb, yo + 3, none⟩ = some (.int .u64 x.price) ∧ V.cell? ⟨yb, yo + 4, none⟩ = some (.slice x.wa x.ws.length x.wc)) ((first | go_keep | (go_split_ands; (try dsimp only); (repeat' apply And.intro) <;> (first | exact keep11 (by assumption) n1 | exact keep11 (by assumption) n2 | exact keep11 (by assumption) n3))))
              (first
                | (go_at_call 26; (with_reducible refine (K26.out (World.drew w7) hA).mono ?_); rintro r0 y7 ⟨d7, la7, lc7, rfl, hd7, hbd7, hl7, hln7, hb7⟩; have b7 : Box y7 w3.heap.size m := Box.kept (W := World.drew w7) (show Box (World.drew w7) w3.heap.size m from RM.out) hb7; obtain ⟨p0, p1, p2, p3, p4, p5, p6, p7, p8, p9, p10⟩ := b7.cells; have f0 := below_cell hb7 (a := ⟨yb, yo, none⟩) (v := .int .i64 x.acc) (by go_keep); have f1 := below_cell hb7 (a := ⟨yb, yo + 1, none⟩) (v := .int .i64 x.item) (by go_keep); have f2 := below_cell hb7 (a := ⟨yb, yo + 2, none⟩) (v := .int .u64 x.coins) (by go_keep); have f3 := below_cell hb7 (a := ⟨yb, yo + 3, none⟩) (v := .int .u64 x.price) (by go_keep); have f4 := below_cell hb7 (a := ⟨yb, yo + 4, none⟩) (v := .slice x.wa x.ws.length x.wc) (by go_keep); have k10 := below_cell hb7 (a := ⟨w.heap.size, 10, none⟩) (v := .slice (some ⟨yb, yo, none⟩) 1 c.ec) (by go_keep))
                | (go_at_call 26; (with_reducible refine (K26.out (World.drew (World.alloc w7 (.cells #[.int .i64 0, .int .i64 0, .int .i64 0, .int .i64 0, .int .i64 0, .int .i64 0, .int .u64 0, .int .u64 0, .int .u64 0, .int .i64 0, .slice none 0 0] 25))) hA1).mono ?_); rintro r0 y7 ⟨d7, la7, lc7, rfl, hd7, hbd7, hl7, hln7, hb7⟩; have b7 : Box y7 w3.heap.size m := Box.kept (W := World.drew (World.alloc w7 (.cells #[.int .i64 0, .int .i64 0, .int .i64 0, .int .i64 0, .int .i64 0, .int .i64 0, .int .u64 0, .int .u64 0, .int .u64 0, .int .i64 0, .slice none 0 0] 25))) (show Box (World.drew (World.alloc w7 (.cells #[.int .i64 0, .int .i64 0, .int .i64 0, .int .i64 0, .int .i64 0, .int .i64 0, .int .u64 0, .int .u64 0, .int .u64 0, .int .i64 0, .slice none 0 0] 25))) w3.heap.size m from RM.out.alloc _) hb7; obtain ⟨p0, p1, p2, p3, p4, p5, p6, p7, p8, p9, p10⟩ := b7.cells; have f0 := below_cell hb7 (a := ⟨yb, yo, none⟩) (v := .int .i64 x.acc) (by go_keep); have f1 := below_cell hb7 (a := ⟨yb, yo + 1, none⟩) (v := .int .i64 x.item) (by go_keep); have f2 := below_cell hb7 (a := ⟨yb, yo + 2, none⟩) (v := .int .u64 x.coins) (by go_keep); have f3 := below_cell hb7 (a := ⟨yb, yo + 3, none⟩) (v := .int .u64 x.price) (by go_keep); have f4 := below_cell hb7 (a := ⟨yb, yo + 4, none⟩) (v := .slice x.wa x.ws.length x.wc) (by go_keep); have k10 := below_cell hb7 (a := ⟨w.heap.size, 10, none⟩) (v := .slice (some ⟨yb, yo, none⟩) 1 c.ec) (by go_keep); have hz7 : y7.heap[w7.heap.size]? = some (.cells #[.int .i64 0, .int .i64 0, .int .i64 0, .int .i64 0, .int .i64 0, .int .i64 0, .int .u64 0, .int .u64 0, .int .u64 0, .int .i64 0, .slice none 0 0] 25) := row_kept (show (World.drew (World.alloc w7 (.cells #[.int .i64 0, .int .i64 0, .int .i64 0, .int .i64 0, .int .i64 0, .int .i64 0, .int .u64 0, .int .u64 0, .int .u64 0, .int .i64 0, .slice none 0 0] 25))).heap[w7.heap.size]? = _ from alloc_at rfl) hb7; obtain ⟨z0, z1, z2, z3, z4, z5, z6, z7, z8, z9, z10⟩ := cells11 hz7; have fz0 := frozen_of_row _ _ 0 _ _ hz7; have fz1 := frozen_of_row _ _ 1 _ _ hz7; have fz2 := frozen_of_row _ _ 2 _ _ hz7; have fz3 := frozen_of_row _ _ 3 _ _ hz7; have fz4 := frozen_of_row _ _ 4 _ _ hz7; have fz5 := frozen_of_row _ _ 5 _ _ hz7; have fz6 := frozen_of_row _ _ 6 _ _ hz7; have fz7 := frozen_of_row _ _ 7 _ _ hz7; have fz8 := frozen_of_row _ _ 8 _ _ hz7; have fz9 := frozen_of_row _ _ 9 _ _ hz7; have fz10 := frozen_of_row _ _ 10 _ _ hz7))
            all_goals
              go_wp2_with fail
              go_meet
              first
                | with_reducible exact dealEndA hd7 hbd7 hl7 hln7 hb7
                | with_reducible exact dealEndB hd7 hbd7 hl7 hln7 hb7
          case rest =>
            obtain ⟨q2, y1, lb, lbc, rfl, rfl, rfl, rfl, hbx, hdx, hbare, hol, hnl, hb, hqn⟩ := hcut
            obtain ⟨w8, h8⟩ : ∃ W, W = wc := ⟨_, rfl⟩
            subst h8
            have RM := Lib.hid (RM.out.kept hb)
            have R1 := Lib.hid (R1.out.kept hb)
            have RX := Lib.hid (RX.out.kept hb)
            have HNM := Lib.hid (HNM.out.kept hb)
            have HO1 := Lib.hid (owns_below (B := 0) HO1.out hb)
            have HBw8 := Lib.hid (HBw7.out.trans (hb.mono HBw7.out.size))
            have SZw8 := Lib.hid hb.size
            have RY := Lib.hid hbx
            have HYB := Lib.hid hbare
            have HO2 := Lib.hid hol
            have HRO2 := Lib.hid hol.lt
            have HQN2 := Lib.hid hqn
            clear hb hbx hdx hbare hol hnl hqn f0 f1 f2 f3 f4 k10 n1 n2 n3 hA hA1 K26 p0 p1 p2 p3 p4 p5 p6 p7 p8 p9 p10 HYE
            have K11 := Lib.hid (mirror_any m w8 HNM.out.ok)
            rw [mir_terms HX.out HF.out HMO.out, mir_back HX.out HF.out HMO.out] at K11
            unfold Con.agg at K11
            obtain ⟨p0, p1, p2, p3, p4, p5, p6, p7, p8, p9, p10⟩ := RM.out.cells
            go_wp2_with fail
            refine K11.out.mono ?_
            rintro r0 w9 ⟨bm, rfl, hmd, hnm, hb⟩
            clear p0 p1 p2 p3 p4 p5 p6 p7 p8 p9 p10
            have RM := Lib.hid (RM.out.kept hb)
            have R1 := Lib.hid (R1.out.kept hb)
            have RX := Lib.hid (RX.out.kept hb)
            have RY := Lib.hid (RY.out.kept hb)
            have HNM := Lib.hid (HNM.out.kept hb)
            have HO1 := Lib.hid (owns_below (B := 0) HO1.out hb)
            have HO2 := Lib.hid (owns_below (B := 0) HO2.out hb)
            have HBw9 := Lib.hid (HBw8.out.trans (hb.mono HBw8.out.size))
            have SZw9 := Lib.hid hb.size
            have HNB := Lib.hid hnm
            have HBD := Lib.hid hmd
            clear hb hnm hmd K11
            have hx10 := fun X => RX.out.cellsA.2.2.2.2.2.2.2.2.2.2 X
            have hy10 := fun X => RY.out.cellsA.2.2.2.2.2.2.2.2.2.2 X
            rw [HXB.out.1, HXB.out.2.1, HXB.out.2.2] at hx10
            rw [HYB.out.1, HYB.out.2.1, HYB.out.2.2] at hy10
            simp only [List.length_nil] at hx10 hy10
            have NB := Lib.hid ((Below.refl w9.heap.size w9).alloc (Nat.le_refl _) (.cells #[.int .i64 bm.num, .int .i64 bm.kind, .int .i64 bm.by', .int .i64 bm.dl, .int .i64 bm.to, .int .i64 bm.want, .int .u64 bm.price, .int .u64 bm.reserve, .int .u64 bm.step, .int .i64 bm.of', .slice bm.ea bm.es.length bm.ec] 25))
            have HBA := Lib.hid (HBw9.out.alloc HBw9.out.size (.cells #[.int .i64 bm.num, .int .i64 bm.kind, .int .i64 bm.by', .int .i64 bm.dl, .int .i64 bm.to, .int .i64 bm.want, .int .u64 bm.price, .int .u64 bm.reserve, .int .u64 bm.step, .int .i64 bm.of', .slice bm.ea bm.es.length bm.ec] 25))
            have K14 := Lib.hid (same_true bm c (w9.alloc (.cells #[.int .i64 bm.num, .int .i64 bm.kind, .int .i64 bm.by', .int .i64 bm.dl, .int .i64 bm.to, .int .i64 bm.want, .int .u64 bm.price, .int .u64 bm.reserve, .int .u64 bm.step, .int .i64 bm.of', .slice bm.ea bm.es.length bm.ec] 25)) ((HNB.out.kept NB.out).ok) (HC.out.kept HBA.out) HBD.out)
            unfold Con.agg at K14
            obtain ⟨p0, p1, p2, p3, p4, p5, p6, p7, p8, p9, p10⟩ := R1.out.cellsA
            go_wp2_with (first
              | (go_at_call 13; refine (num_any _ _).mono ?_; rintro r0 w6 ⟨rfl, rfl⟩)
              | fail)
            refine K14.out.mono ?_
            rintro r0 w10 ⟨rfl, hb⟩
            clear p0 p1 p2 p3 p4 p5 p6 p7 p8 p9 p10 hx10 hy10 K14
            have hb := NB.out.trans (hb.mono NB.out.size)
            have RM := Lib.hid (RM.out.kept hb)
            have R1 := Lib.hid (R1.out.kept hb)
            have RX := Lib.hid (RX.out.kept hb)
            have HNM := Lib.hid (HNM.out.kept hb)
            have HO1 := Lib.hid (owns_below (B := 0) HO1.out hb)
            have HO2 := Lib.hid (owns_below (B := 0) HO2.out hb)
            have HBw10 := Lib.hid (HBw9.out.trans (hb.mono HBw9.out.size))
            have SZw10 := Lib.hid hb.size
            clear hb NB HBA
            have HGL := Lib.hid (show G17.length ≤ 4 from by have h1 := gV_length_le x c.to; have h2 := gV_length_le (dealY c) c.by'; rw [HG1.out, List.length_append]; omega)
            have HWH := Lib.hid (show wholeP G17 from by rw [HG1.out]; exact fun g hg => (List.mem_append.1 hg).elim (whole_gV _ _ g) (whole_gV _ _ g))
            have K31 := Lib.hid (whole_true la G17.length G17 w10 (by have := HGL.out; omega) (sl_owns HO1.out) HWH.out)
            go_wp2_with fail
            with_reducible refine K31.out.mono ?_
            rintro r0 w11 ⟨rfl, hq⟩
            have hb := hq.below w10.heap.size
            have RM := Lib.hid (RM.out.kept hb)
            have R1 := Lib.hid (R1.out.kept hb)
            have RX := Lib.hid (RX.out.kept hb)
            have HNM := Lib.hid (HNM.out.kept hb)
            have HO1 := Lib.hid (owns_below (B := 0) HO1.out hb)
            have HO2 := Lib.hid (owns_below (B := 0) HO2.out hb)
            have HBw11 := Lib.hid (HBw10.out.trans (hb.mono HBw10.out.size))
            have SZw11 := Lib.hid hb.size
            clear hb hq K31
            have HSA := Lib.hid (sl_owns HO1.out)
            have hgl : G17.length ≤ 4 := HGL.out
            obtain ⟨A, hA⟩ : ∃ A, A = gV x c.to := ⟨_, rfl⟩
            obtain ⟨B, hB⟩ : ∃ B, B = gV (dealY c) c.by' := ⟨_, rfl⟩
            rw [← hA, ← hB] at HG1 HG2
            have HA := Lib.hid hA
            have HB := Lib.hid hB
            clear hA hB
            have HL := Lib.hid (show G17.length = A.length + B.length from by rw [HG1.out, List.length_append])
            have hal : A.length ≤ 2 := by rw [HA.out]; exact gV_length_le _ _
            have hbl : B.length ≤ 2 := by rw [HB.out]; exact gV_length_le _ _
            go_upto_block 0 with fail
            go_cut [23] from 197 to 212 (fun s W => s = .int .i64 A.length ∧ Qt w11 W)
            case first =>
              go_wp2_with fail
              go_loopw [23] (fun i wr => ∃ j : Nat, j ≤ A.length ∧ i = .int .i64 j ∧ Qt w11 wr) (fun i _ => A.length + 1 - (intOf i).toNat)
              case atStart => exact ⟨0, by omega, rfl, Qt.refl _⟩
              case round =>
                obtain ⟨j, hj, rfl, hq⟩ := hrel
                have HQ := Lib.hid hq
                clear hq
                have hgj : A.length ≤ G17.length := by rw [HL.out]; omega
                have r4 : wr.cell? ⟨w.heap.size, 4, none⟩ = some (.int .i64 c.to) := (R1.out.kept (HQ.out.below _)).cells.2.2.2.2.1
                by_cases hlt : j < G17.length
                · have u0 : decide ((j : Int) < (G17.length : Int)) = true := by simp; omega
                  have i1 : (j : Int) < (G17.length : Int) := by omega
                  obtain ⟨gb, go, hla, x0, x1', x2⟩ := gift_at (HQ.out.sl HSA.out) j hlt
                  subst hla
                  by_cases hja : j < A.length
                  · have hto : G17[j].to = c.to := by
                      have : G17[j] ∈ A := by simp only [HG1.out]; rw [List.getElem_append_left hja]; exact List.getElem_mem _
                      rw [HA.out] at this; exact gV_to this
                    rw [hto] at x0
                    have u1 : (c.to == c.to) = true := by simp
                    clear hto
                    go_wp2
                    go_quiet (fail)
                    go_wp2
                    go_roundw
                    case rel => exact ⟨j + 1, by omega, by go_num, HQ.out.trans ⟨_, rfl⟩⟩
                    case measure => simp [intOf]; omega
                  · have hto : G17[j].to = c.by' := by
                      have : G17[j] ∈ B := by simp only [HG1.out]; rw [List.getElem_append_right (by omega)]; exact List.getElem_mem _
                      rw [HB.out] at this; exact gV_to this
                    rw [hto] at x0
                    have u1 : (c.by' == c.to) = false := beq_eq_false_iff_ne.2 (fun e => HF.out.far e.symm)
                    have HJJ := Lib.hid (show j = A.length by omega)
                    clear hto
                    go_wp2
                    go_quiet (fail)
                    go_wp2
                    go_meet
                    exact ⟨by rw [HJJ.out], HQ.out.trans ⟨_, rfl⟩⟩
                · have u0 : decide ((j : Int) < (G17.length : Int)) = false := by simp; omega
                  have HJJ := Lib.hid (show j = A.length by omega)
                  go_wp2
                  go_quiet (fail)
                  go_wp2
                  go_meet
                  exact ⟨by rw [HJJ.out], HQ.out.trans ⟨_, rfl⟩⟩
            case rest =>
              obtain ⟨rfl, hq⟩ := hcut
            
              obtain ⟨w12, h12⟩ : ∃ W, W = wc := ⟨_, rfl⟩
              subst h12
              have hb := hq.below w11.heap.size
              have RM := Lib.hid (RM.out.kept hb)
              have R1 := Lib.hid (R1.out.kept hb)
              have RX := Lib.hid (RX.out.kept hb)
              have HNM := Lib.hid (HNM.out.kept hb)
              have HO1 := Lib.hid (owns_below (B := 0) HO1.out hb)
              have HO2 := Lib.hid (owns_below (B := 0) HO2.out hb)
              have HSA := Lib.hid (HSA.out.kept hb)
              have HBw12 := Lib.hid (HBw11.out.trans (hb.mono HBw11.out.size))
              have SZw12 := Lib.hid hb.size
              clear hb hq
              have hB0 : 0 < B.length := by rw [HB.out]; exact gV_ne HF.out.some'
              have hA0 : 0 < A.length := by rw [HA.out]; exact gV_ne HF.out.any
              have hgl2 : G17.length = A.length + B.length := HL.out
              obtain ⟨g1, c1, cur1, hv1, hg1, hr1, hle1, _, _, _⟩ := owns_cases HO1.out (by omega)
              injection hv1 with hla hv2 hv3
              have HG1Q := Lib.hid (show g1 ≠ q from rows_ne hr1 (show w12.heap[q]? = some (.cells #[.int .i64 x1.num, .int .i64 x1.kind, .int .i64 x1.by', .int .i64 x1.dl, .int .i64 x1.to, .int .i64 x1.want, .int .u64 x1.price, .int .u64 x1.reserve, .int .u64 x1.step, .int .i64 x1.of', .slice x1.ea x1.es.length x1.ec] 25) from RX.out) (by decide))
              have HG1L := Lib.hid (lt_row hr1)
              clear hv2 hv3 hg1 hr1 hle1
              have HLA := Lib.hid hla
              clear hla
              have hal2 : A.length ≤ G17.length := by omega
              have hs1 := run_slice_lo (P := Try.prog) Try.underlying37 sz56 la G17.length G17.length .i64 (A.length : Int) A.length B.length rfl hgl2
              have hs2 := run_slice_hi (P := Try.prog) Try.underlying37 sz56 la ⟨g1, HLA.out⟩ G17.length G17.length .i64 (A.length : Int) A.length rfl hal2
              have HGL2 := Lib.hid hgl2
              have HSB := Lib.hid (show Sl w12 (piece la A.length G17.length 3) (gFlat B) from sl_rest (by rw [← HG1.out]; exact HSA.out) (by rw [← HG1.out]))
              have HSAA := Lib.hid (show Sl w12 la (gFlat A) from by
                have h := HSA.out
                rw [HG1.out, gFlat_append] at h
                exact sl_prefix h)
              have HPN := Lib.hid (show piece la A.length G17.length 3 = none → B.length = 0 ∧ G17.length - A.length = 0 from fun h => by rw [HLA.out] at h; unfold piece at h; rw [if_neg (by omega)] at h; cases h)
              generalize piece la A.length G17.length 3 = pc at hs1 HSB HPN
              clear hgl2
              have C1 := Lib.hid (show 0 + B.length ≤ maxLen from by unfold maxLen; omega)
              have C2 := Lib.hid (show (0 + B.length) * 24 ≤ 140737488355328 from by omega)
              have C3 := Lib.hid (show B.length + A.length ≤ maxLen from by unfold maxLen; omega)
              have C4 := Lib.hid (show (B.length + A.length) * 24 ≤ 140737488355328 from by omega)
              have BB12 := Lib.hid (Below.refl w12.heap.size w12)
              have r10 : w12.cell? ⟨w.heap.size, 10, none⟩ = some (.slice c.ea c.es.length c.ec) := R1.out.cells.2.2.2.2.2.2.2.2.2.2
              have rx0 : w12.heap[q]? = some (.cells #[.int .i64 x1.num, .int .i64 x1.kind, .int .i64 x1.by', .int .i64 x1.dl, .int .i64 x1.to, .int .i64 x1.want, .int .u64 x1.price, .int .u64 x1.reserve, .int .u64 x1.step, .int .i64 x1.of', .slice x1.ea x1.es.length x1.ec] 25) := RX.out
              have HQW := Lib.hid (show w.heap.size ≠ q from by have h1 := HQN.out; have h3 := SZw6.out; have h4 := SZw4.out; have h5 := SZw5.out; have h6 := SZw3.out; have h7 := SZw2.out; have h8 := SZw1.out; have h9 := (show w.heap.size < w6.heap.size from by omega); omega)
              go_upto_region 26 with fail
              iterate 14 (first | with_reducible refine at_slice_op ?_ | go_step)
              refine wpList_slice_lo Try.underlying37 (.slice la G17.length G17.length) (.int .i64 A.length) _ rfl rfl hs1 ?_
              iterate 6 (first | at_builtin | go_step)
              refine wpList_append_sl_at rfl _ _ 37 rfl w12.heap.size 56 (.agg #[.int .i64 0, .int .i64 0, .int .u64 0]) 3 24 Try.underlying37 info56' rfl (by decide) (.slice none 0 0) 0 [] rfl (World.ownsRow_nil _ _ _ _) pc B.length (G17.length - A.length) (gFlat B) rfl HPN.out (gFlat_length _) HSB.out (oneCell_gFlat _) C1.out C2.out (Nat.le_refl _) ?_
              intro v1 w13 ho13 hg13 hl13
              have BB13 := Lib.hid (BB12.out.grown hg13 (Nat.le_refl _) (fun k hk => by cases hk))
              simp only [Nat.zero_add, List.nil_append] at ho13
              have HO13 := Lib.hid ho13
              clear hg13 hl13 ho13
              iterate 20 (first | with_reducible refine at_slice_op ?_ | go_step)
              refine wpList_slice_hi Try.underlying37 (.slice la G17.length G17.length) (.int .i64 A.length) _ rfl rfl hs2 ?_
              iterate 6 (first | at_builtin | go_step)
              refine wpList_append_sl_at rfl _ _ 37 rfl w12.heap.size 56 (.agg #[.int .i64 0, .int .i64 0, .int .u64 0]) 3 24 Try.underlying37 info56' rfl (by decide) v1 B.length (gFlat B) rfl HO13.out la A.length G17.length (gFlat A) rfl (fun h => by rw [HLA.out] at h; cases h) (gFlat_length _) (HSAA.out.kept BB13.out) (oneCell_gFlat _) C3.out C4.out BB13.out.size ?_
              intro v2 w14 ho14 hg14 hl14
              have HB14 := Lib.hid (BB13.out.grown hg14 BB13.out.size (fun k hk => (HO13.out.lt k hk).1))
              have rx := row_kept rx0 HB14.out
              have r10 := below_cell HB14.out r10
              clear hs1 hs2
              iterate 30 (first | with_reducible refine at_store_op ?_ | go_step)
              refine wpList_store_lit 23 q 10 #[.int .i64 x1.num, .int .i64 x1.kind, .int .i64 x1.by', .int .i64 x1.dl, .int .i64 x1.to, .int .i64 x1.want, .int .u64 x1.price, .int .u64 x1.reserve, .int .u64 x1.step, .int .i64 x1.of', .slice c.ea c.es.length c.ec] (.slice c.ea c.es.length c.ec) rx sz23 (Nat.le_of_ble_eq_true rfl) rfl rfl ?_ ?_ ?_
              exact rfl
              exact rfl
              intro w15 hp15
              have HL18 := Lib.hid (show G18.length = B.length + A.length from by rw [HG2.out, List.length_append])
              rw [← gFlat_append, ← HG2.out, ← HL18.out] at ho14
              have s0 : w.heap.size ≤ w6.heap.size := HBw6.out.size
              have s6 := SZw6.out
              have s7 := SZw7.out
              have s5 := SZw5.out
              have s4 := SZw4.out
              have s3 := SZw3.out
              have s12 : w7.heap.size ≤ w12.heap.size := by have h1 := SZw8.out; have h2 := SZw9.out; have h3 := SZw10.out; have h4 := SZw11.out; have h5 := SZw12.out; omega
              have hqn := HQN.out
              have hql := HQL.out
              have HB14' := Lib.hid (HBw12.out.trans (HB14.out.mono HBw12.out.size))
              have RM := Lib.hid (show Box w15 w3.heap.size m from hp15.row (RM.out.kept HB14.out) (by omega))
              have R1 := Lib.hid (show Box w15 w.heap.size c from hp15.row (R1.out.kept HB14.out) HQW.out)
              have RX2 := Lib.hid (show Box w15 q { x1 with ea := c.ea, ec := c.ec, es := c.es } from hp15.at')
              have HNM := Lib.hid ((HNM.out.kept HB14.out).only hp15.only (fun k hk e => by have := HRM.out k hk; simp only [Rn] at this; omega))
              have HO2 := Lib.hid (hp15.only.owns (owns_below (B := 0) HO2.out HB14.out) (fun k hk e => by have := (HRO2.out k hk).1; omega))
              have HRO14 := Lib.hid (show ∀ k, v2.ownBlock = some k → w12.heap.size ≤ k ∧ k < w14.heap.size from ho14.lt)
              have HO14 := Lib.hid (hp15.only.owns ho14 (fun k hk e => by have := (HRO14.out k hk).1; omega))
              have HSA := Lib.hid (hp15.only.sl (HSA.out.kept HB14.out) (fun y hy _ e => by rw [HLA.out] at hy; injection hy with hy; subst hy; exact HG1Q.out e))
              have HBw15 := Lib.hid (hp15.below HB14'.out HB14'.out.size (by omega))
              have SZw15 := Lib.hid (show w14.heap.size ≤ w15.heap.size from hp15.grown.size)
              have SZw14 := Lib.hid HB14.out.size
              have SZq := Lib.hid (show q < w12.heap.size from by omega)
              have HBw14s := Lib.hid (show w.heap.size < w15.heap.size from R1.out.lt)
              clear hp15 ho14 hg14 hl14 rx r10 rx0 HB14 HB14' BB12 BB13 HO13 HSB HSAA HPN s0 s6 s7 s5 s4 s3 s12 hqn hql C1 C2 C3 C4
              obtain ⟨p0, p1, p2, p3, p4, p5, p6, p7, p8, p9, p10⟩ := R1.out.cells
              go_wp2_with fail
              refine (HK19.out _ HBw15.out).mono ?_
              rintro r0 w16 ⟨ba, bc, rfl, ha, han, hb⟩
              have HBA := Lib.hid (show backV c.es = gV x c.by' from by rw [HX.out]; show gV x x.acc ++ [] = _; rw [List.append_nil, HF.out.acc])
              obtain ⟨A0, hA0e⟩ : ∃ A0, A0 = gV x c.by' := ⟨_, rfl⟩
              have HA0E := Lib.hid hA0e
              rw [HBA.out, ← hA0e] at ha han ⊢
              clear hA0e
              have HLA0 := Lib.hid (show A0.length = A.length from by rw [HA0E.out, HA.out]; exact gV_len _ _ _)
              have HSA0 := Lib.hid (show setTo c.to A0 = A from by rw [HA0E.out, HA.out]; exact setTo_gV _ _ _)
              have hal0 : A0.length ≤ 2 := by rw [HLA0.out]; exact hal
              obtain ⟨g2, c2, cur2, hv2, hg2, hr2, _, _, _, _⟩ := owns_cases ha (by rw [HLA0.out]; exact hA0)
              injection hv2 with hba _ _
              subst hba
              have HM0 := Lib.hid (MixR.start (t := c.to) ha (by rw [HLA0.out]; exact hA0))
              have HG2R := Lib.hid (show w15.heap.size ≤ g2 ∧ g2 < w16.heap.size from ⟨hg2, lt_row hr2⟩)
              have RM := Lib.hid (RM.out.kept hb)
              have R1 := Lib.hid (R1.out.kept hb)
              have RX2 := Lib.hid (RX2.out.kept hb)
              have HNM := Lib.hid (HNM.out.kept hb)
              have HO2 := Lib.hid (owns_below (B := 0) HO2.out hb)
              have HO14 := Lib.hid (owns_below (B := 0) HO14.out hb)
              have HSA := Lib.hid (HSA.out.kept hb)
              have HBw16 := Lib.hid (HBw15.out.trans (hb.mono HBw15.out.size))
              have SZw16 := Lib.hid hb.size
              clear hb ha han hg2 hr2 p0 p1 p2 p3 p4 p5 p6 p7 p8 p9 p10
              go_wp2
              go_loopw [26] (fun i wr => ∃ j : Nat, j ≤ A0.length ∧ i = .int .i64 j ∧ MixR w16 g2 c.to A0 j wr) (fun i _ => A0.length - (intOf i).toNat)
              case atStart => exact ⟨0, by omega, rfl, HM0.out⟩
              case round =>
                obtain ⟨j, hj, rfl, hmx⟩ := hrel
                have HMX := Lib.hid hmx
                clear hmx
                obtain ⟨w17, h17⟩ : ∃ W, W = wr := ⟨_, rfl⟩
                subst h17
                by_cases hlt : j < A0.length
                case pos =>
                  have u0 : decide ((j : Int) < (A0.length : Int)) = true := by simp; omega
                  have i1 : (j : Int) < (A0.length : Int) := by omega
                  obtain ⟨m0, m1, m2⟩ := HMX.out.step hlt
                  have HM2 := Lib.hid m2
                  clear m2
                  have r4 : w17.cell? ⟨w.heap.size, 4, none⟩ = some (.int .i64 c.to) := HMX.out.2.cell R1.out.cells.2.2.2.2.1 (show ¬ (w.heap.size = g2) from by have h1 := HG2R.out.1; have h2 := HBw14s.out; omega)
                  go_wp2
                  go_roundw
                  case rel => exact ⟨j + 1, by omega, by go_num, HM2.out⟩
                  case measure => simp [intOf]; omega
                case neg =>
                  have u0 : decide ((j : Int) < (A0.length : Int)) = false := by simp; omega
              
                  have HBK := Lib.hid (show Sl w17 (some ⟨g2, 0, none⟩) (gFlat A) from by
                    have h := HMX.out.sl
                    rw [mixG_all _ _ _ (by omega), HSA0.out] at h
                    exact h)
                  have ho := HMX.out.2
                  have s0 := HBw14s.out
                  have s1 := HG2R.out.1
                  have s2 := RM.out.lt
                  have s3 := SZq.out
                  have s4 := HQN.out
                  have s5 := SZw6.out
                  have s6 := SZw5.out
                  have s7 := SZw4.out
                  have s8 := SZw14.out
                  have s9 := SZw15.out
                  have s10 : w7.heap.size ≤ w12.heap.size := by have h1 := SZw8.out; have h2 := SZw9.out; have h3 := SZw10.out; have h4 := SZw11.out; have h5 := SZw12.out; omega
                  have s11 : w8.heap.size ≤ w12.heap.size := by have h2 := SZw9.out; have h3 := SZw10.out; have h4 := SZw11.out; have h5 := SZw12.out; omega
                  have s12 := HG1L.out
                  have RM := Lib.hid (RM.out.only ho (by omega))
                  have R1 := Lib.hid (R1.out.only ho (by omega))
                  have RX2 := Lib.hid (RX2.out.only ho (by omega))
                  have HNM := Lib.hid (HNM.out.only ho (fun k hk e => by have := HRM.out k hk; simp only [Rn] at this; omega))
                  have HO2 := Lib.hid (ho.owns HO2.out (fun k hk e => by have := (HRO2.out k hk).2; omega))
                  have HO14 := Lib.hid (ho.owns HO14.out (fun k hk e => by have := (HRO14.out k hk).2; omega))
                  have HSA := Lib.hid (ho.sl HSA.out (fun y hy _ e => by rw [HLA.out] at hy; injection hy with hy; subst hy; simp only at e; omega))
                  have HBw17 := Lib.hid (HBw16.out.trans (ho.below HBw16.out.size (fun k hk => by omega)))
                  clear ho s0 s1 s2 s3 s4 s5 s6 s7 s8 s9 s10 s11 s12
                  have K19 := Lib.hid (back_any m w17 HNM.out.ok)
                  obtain ⟨B0, hB0e⟩ : ∃ B0, B0 = gV (dealY c) c.to := ⟨_, rfl⟩
                  have HB0E := Lib.hid hB0e
                  rw [show backV m.es = B0 from by rw [HMO.out.es, hB0e]; show gV (dealY c) c.to ++ [] = _; rw [List.append_nil]] at K19
                  clear hB0e
                  unfold Con.agg at K19
                  have HLB0 := Lib.hid (show B0.length = B.length from by rw [HB0E.out, HB.out]; exact gV_len _ _ _)
                  have HSB0 := Lib.hid (show setTo c.by' B0 = B from by rw [HB0E.out, HB.out]; exact setTo_gV _ _ _)
                  have hbl0 : B0.length ≤ 2 := by rw [HLB0.out]; exact hbl
                  obtain ⟨p0, p1, p2, p3, p4, p5, p6, p7, p8, p9, p10⟩ := RM.out.cells
                  go_wp2_with fail
                  refine K19.out.mono ?_
                  rintro r0 w18 ⟨fa, fc, rfl, ha, han, hb⟩
                  obtain ⟨g3, c3, cur3, hv3, hg3, hr3, _, _, _, _⟩ := owns_cases ha (by rw [HLB0.out]; exact hB0)
                  injection hv3 with hfa _ _
                  subst hfa
                  have HM1 := Lib.hid (MixR.start (t := c.by') ha (by rw [HLB0.out]; exact hB0))
                  have HG3R := Lib.hid (show w17.heap.size ≤ g3 ∧ g3 < w18.heap.size from ⟨hg3, lt_row hr3⟩)
                  have R1L := Lib.hid R1.out.lt
                  have RXL := Lib.hid RX2.out.lt
                  have HO2L := Lib.hid HO2.out.lt
                  have HO14L := Lib.hid HO14.out.lt
                  have HG1L2 := Lib.hid (show g1 < w17.heap.size from HSA.out.lt _ HLA.out (by rw [HG1.out, gFlat_append]; intro h; have h2 := congrArg List.length h; rw [List.length_append, gFlat_length] at h2; simp at h2; omega))
                  have HG2L2 := Lib.hid (show g2 < w17.heap.size from HBK.out.lt _ rfl (by intro h; have h2 := congrArg List.length h; rw [gFlat_length] at h2; simp at h2; omega))
                  have R1 := Lib.hid (R1.out.kept hb)
                  have RX2 := Lib.hid (RX2.out.kept hb)
                  have HO2 := Lib.hid (owns_below (B := 0) HO2.out hb)
                  have HO14 := Lib.hid (owns_below (B := 0) HO14.out hb)
                  have HSA := Lib.hid (HSA.out.kept hb)
                  have HBK := Lib.hid (HBK.out.kept hb)
                  have HBw18 := Lib.hid (HBw17.out.trans (hb.mono HBw17.out.size))
                  clear hb ha han hg3 hr3 p0 p1 p2 p3 p4 p5 p6 p7 p8 p9 p10 HMX
                  go_wp2
                  go_loopw [28] (fun i wr => ∃ j : Nat, j ≤ B0.length ∧ i = .int .i64 j ∧ MixR w18 g3 c.by' B0 j wr) (fun i _ => B0.length - (intOf i).toNat)
                  case atStart => exact ⟨0, by omega, rfl, HM1.out⟩
                  case round =>
                    obtain ⟨j2, hj2, rfl, hmx⟩ := hrel
                    have HMX := Lib.hid hmx
                    clear hmx
                    obtain ⟨w19, h19⟩ : ∃ W, W = wr := ⟨_, rfl⟩
                    subst h19
                    by_cases hlt2 : j2 < B0.length
                    case pos =>
                      have v0 : decide ((j2 : Int) < (B0.length : Int)) = true := by simp; omega
                      have i2 : (j2 : Int) < (B0.length : Int) := by omega
                      obtain ⟨m0, m1, m2⟩ := HMX.out.step hlt2
                      have HM2 := Lib.hid m2
                      clear m2
                      have r2 : w19.cell? ⟨w.heap.size, 2, none⟩ = some (.int .i64 c.by') := HMX.out.2.cell R1.out.cells.2.2.1 (show ¬ (w.heap.size = g3) from by have h1 := HG3R.out.1; have h2 := R1L.out; omega)
                      go_wp2
                      go_roundw
                      case rel => exact ⟨j2 + 1, by omega, by go_num, HM2.out⟩
                      case measure => simp [intOf]; omega
                    case neg =>
                      have v0 : decide ((j2 : Int) < (B0.length : Int)) = false := by simp; omega
                  
                      have HFB := Lib.hid (show Sl w19 (some ⟨g3, 0, none⟩) (gFlat B) from by
                        have h := HMX.out.sl
                        rw [mixG_all _ _ _ (by omega), HSB0.out] at h
                        exact h)
                      have ho := HMX.out.2
                      have s0 := HG3R.out.1
                      have s1 := R1L.out
                      have s2 := RXL.out
                      have s3 := HG1L2.out
                      have s4 := HG2L2.out
                      have R1 := Lib.hid (R1.out.only ho (by omega))
                      have RX2 := Lib.hid (RX2.out.only ho (by omega))
                      have HO2 := Lib.hid (ho.owns HO2.out (fun k hk e => by have := (HO2L.out k hk).2; omega))
                      have HO14 := Lib.hid (ho.owns HO14.out (fun k hk e => by have := (HO14L.out k hk).2; omega))
                      have HSA := Lib.hid (ho.sl HSA.out (fun y hy _ e => by rw [HLA.out] at hy; injection hy with hy; subst hy; simp only at e; omega))
                      have HBK := Lib.hid (ho.sl HBK.out (fun y hy _ e => by injection hy with hy; subst hy; simp only at e; omega))
                      have HBw19 := Lib.hid (HBw18.out.trans (ho.below HBw18.out.size (fun k hk => by omega)))
                      clear ho s0 s1 s2 s3 s4 HMX
                      obtain ⟨va, vc, hv2', _, _, _⟩ := owns_slice HO14.out
                      subst hv2'
                      have H18 := Lib.hid (show G18.length ≤ 5864062014634 from by have h := HL18.out; omega)
                      have K1 := Lib.hid (gifts_true lb va G18.length vc G18 w19 H18.out (sl_owns HO2.out) (sl_owns HO14.out))
                      go_wp2_with fail
                      with_reducible refine K1.out.mono ?_
                      rintro r0 w20 ⟨rfl, hq⟩
                      have hb := hq.below w19.heap.size
                      have R1 := Lib.hid (R1.out.kept hb)
                      have RX2 := Lib.hid (RX2.out.kept hb)
                      have HSA := Lib.hid (HSA.out.kept hb)
                      have HBK := Lib.hid (HBK.out.kept hb)
                      have HFB := Lib.hid (HFB.out.kept hb)
                      have HBw20 := Lib.hid (HBw19.out.trans (hb.mono HBw19.out.size))
                      clear hb hq K1
                      have HCK := HC.out.kept HBw20.out
                      have K14 := Lib.hid (same_true { x1 with ea := c.ea, ec := c.ec, es := c.es } c w20 ⟨HCK.sl, HCK.ents, HCK.le, HCK.mx, HCK.nil⟩ HCK (by
                        have h := HXD.out
                        simp only [Con.d, Con.less, Prod.mk.injEq] at h ⊢
                        exact ⟨h.1, h.2.1, by trivial⟩))
                      clear HCK
                      unfold Con.agg at K14
                      simp only at K14
                      obtain ⟨p0, p1, p2, p3, p4, p5, p6, p7, p8, p9, p10⟩ := R1.out.cells
                      obtain ⟨q0, q1, q2', q3, q4, q5, q6, q7, q8, q9, q10⟩ := RX2.out.cells
                      simp only at q0 q1 q2' q3 q4 q5 q6 q7 q8 q9 q10
                      go_wp2_with fail
                      refine K14.out.mono ?_
                      rintro r0 w21 ⟨rfl, hb⟩
                      have HSA := Lib.hid (HSA.out.kept hb)
                      have HBK := Lib.hid (HBK.out.kept hb)
                      have HFB := Lib.hid (HFB.out.kept hb)
                      have HBw21 := Lib.hid (HBw20.out.trans (hb.mono HBw20.out.size))
                      clear hb K14 p0 p1 p2 p3 p4 p5 p6 p7 p8 p9 p10 q0 q1 q2' q3 q4 q5 q6 q7 q8 q9 q10
                      have ht1 := run_slice_lo (P := Try.prog) Try.underlying37 sz56 la G17.length G17.length .i64 (A.length : Int) A.length B.length rfl HGL2.out
                      have ht2 := run_slice_hi (P := Try.prog) Try.underlying37 sz56 la ⟨g1, HLA.out⟩ G17.length G17.length .i64 (A.length : Int) A.length rfl hal2
                      have HSB := Lib.hid (show Sl w21 (piece la A.length G17.length 3) (gFlat B) from sl_rest (by rw [← HG1.out]; exact HSA.out) (by rw [← HG1.out]))
                      have HSAA := Lib.hid (show Sl w21 la (gFlat A) from by
                        have h := HSA.out
                        rw [HG1.out, gFlat_append] at h
                        exact sl_prefix h)
                      generalize piece la A.length G17.length 3 = pd at ht1 HSB
                      have K2 := Lib.hid (show Calls Try.prog 22 #[.slice la A.length G17.length, .slice (some ⟨g2, 0, none⟩) A0.length A0.length] w21 _ from by rw [HLA0.out]; exact gifts_true la (some ⟨g2, 0, none⟩) G17.length A.length A w21 (by omega) HSAA.out HBK.out)
                      go_wp2_with ((with_reducible refine at_slice_op ?_); refine wpList_slice_hi_g ?_ Try.underlying37 (.slice la G17.length G17.length) (.int .i64 A.length) _ ?_ ?_ ht2 ?_; exact rfl; exact rfl; exact rfl)
                      with_reducible refine K2.out.mono ?_
                      rintro r0 w22 ⟨rfl, hq⟩
                      have hb := hq.below w21.heap.size
                      have HSB := Lib.hid (HSB.out.kept hb)
                      have HFB := Lib.hid (HFB.out.kept hb)
                      have HBw22 := Lib.hid (HBw21.out.trans (hb.mono HBw21.out.size))
                      clear hb hq K2
                      have K3 := Lib.hid (show Calls Try.prog 22 #[.slice pd B.length (G17.length - A.length), .slice (some ⟨g3, 0, none⟩) B0.length B0.length] w22 _ from by rw [HLB0.out]; exact gifts_true pd (some ⟨g3, 0, none⟩) (G17.length - A.length) B.length B w22 (by omega) HSB.out HFB.out)
                      go_wp2_with ((with_reducible refine at_slice_op ?_); refine wpList_slice_lo_g ?_ Try.underlying37 (.slice la G17.length G17.length) (.int .i64 A.length) _ ?_ ?_ ht1 ?_; exact rfl; exact rfl; exact rfl)
                      with_reducible refine K3.out.mono ?_
                      rintro r0 w23 ⟨rfl, hq⟩
                      have HBw23 := Lib.hid (HBw22.out.trans ((hq.below w22.heap.size).mono HBw22.out.size))
                      go_wp2
                      go_ret
                      exact ⟨rfl, HBw23.out⟩
theorem own : ownKnob Try.prog.godebug = none := by kernel_rfl
theorem laidOut : laidOutB Try.prog = true := by kernel_rfl
set_option maxRecDepth 100000 in
theorem lifted (os : Os) (started : os.Started) (H : Type) (enc : TypeId × Value → H) :
    ReturnsInHanded {} Try.checked os 8 .any (Rows.tradeDealSpec.pre6 enc Try.prog Try.f8 Rows.tradeDealRow.domain false) (Rows.tradeDealSpec.post enc Try.prog Try.f8 false true false false) := by
  refine returnsInHanded_of_change_sized (C := Try.checked) own started (by kernel_rfl) Try.func8
    (ChangeSpec.witness6 (enc := enc) (C := Try.checked) false ⟨#[], #[.agg #[.int .i64 0, .int .i64 0, .int .i64 0, .int .i64 0, .int .i64 0, .int .i64 0, .int .u64 0, .int .u64 0, .int .u64 0, .int .i64 0, .slice none 0 0], .agg #[.int .i64 0, .int .i64 0, .int .u64 0, .int .u64 0, .slice none 0 0]], []⟩ 8 (by kernel_rfl) (by kernel_rfl) (by kernel_rfl) (by kernel_rfl)) ?_
  intro W base args ds gs before hval0 hW hcnd hsz0 _
  have hsz : (DataW.weightsEach Try.prog (Try.f8.params.toList ++ Rows.tradeDealSpec.plain.varTypes Try.prog) (ds ++ gs)).all (· ≤ reachBytes) = true := hsz0
  clear hsz0
  have hval : ∀ (j : Nat) t v, Try.f8.params[j]? = some t → args[j]? = some v → Value.okWide Try.prog W .any base t v := hval0
  have hW' := hW
  obtain ⟨p, q, hA0, hV, rfl, hfz, hnd⟩ := hW
  have hA : DataW.TrodAll enc Try.prog W 0 (fun _ => true) true Try.f8.params.toList args.toList ds p := hA0
  rw [Try.params8] at hA hval hsz
  obtain ⟨v0, vs0, d0, ds0, p0, q0, hargs, rfl, rfl, h0, r0⟩ := trodAll_cons hA
  obtain ⟨v1, vs1, d1, ds1, p1, q1, rfl, rfl, rfl, h1, r1⟩ := trodAll_cons r0
  obtain ⟨rfl, rfl, rfl⟩ := trodAll_nil r1
  obtain rfl : args = #[v0, v1] := by cases args; simp_all
  obtain ⟨rfl, rfl⟩ := trodVars_none hV
  have k0 := h0
  have lt0 : ∀ x ∈ p0, x.block < W.heap.size := by obtain ⟨m, hm⟩ := k0; exact DataW.trod_lt m _ _ _ hm
  obtain ⟨c0, rfl, n0⟩ := open_con (hval 0 25 v0 rfl rfl) h0 hsz (j := 0) rfl rfl
  have k1 := h1
  have lt1 : ∀ x ∈ p1, x.block < W.heap.size := by obtain ⟨m, hm⟩ := k1; exact DataW.trod_lt m _ _ _ hm
  obtain ⟨c1, rfl, n1⟩ := open_ent (hval 1 44 v1 rfl rfl) h1 hsz (j := 1) rfl rfl
  clear hA0 hval0
  refine (walk c0 c1 W n0 n1).mono fun e W' ⟨he, bel⟩ => ?_
  subst he
  exact ⟨_, rfl, _, _, _, [], _, [], hW', trodAll_mk1 (shut_bool Try.underlying4 _), (trodAll_cons_mk (Below.trod laidOut (by kernel_rfl) (of_decide_eq_true (by kernel_rfl)) k0 bel lt0) (trodAll_cons_mk (Below.trod laidOut (by kernel_rfl) (of_decide_eq_true (by kernel_rfl)) k1 bel lt1) trodAll_mk0)), rfl, bel.frame _, fun h => by cases h⟩
theorem over : Rows.tradeDealRow.holds Try.pinned (OpenSpec.ofChange Rows.tradeDealSpec) :=
  OpenClaim.holds_of_wide 8 Try.f8 rfl rfl rfl rfl rfl rfl rfl ⟨rfl, rfl, rfl, rfl, rfl⟩ rfl rfl rfl rfl rfl (by kernel_rfl) Try.func8 (by kernel_rfl)
    (of_decide_eq_true (by kernel_rfl)) (by unfold Func.isWrapper; first | (rw [if_pos (by decide +kernel)]; kernel_rfl) | (rw [if_neg (by decide +kernel)]; exact ⟨rfl, rfl⟩))
    (fun os started H enc _ => lifted os started H enc)
theorem proved : Rows.TradeDealSaid := over
#print axioms proved
end Go.Proofs.Ytiafhgcnjgpeaaa.lawTradeDeal
