/-
  Of whatever contract, what goes back is what each account's entries hold, item by item and coin by coin.
  No condition beyond the statement's own.
-/
import Derived.Test.YtiafhgcnjgpeaaaZa
import Derived.Test.YtiafhgcnjgpeaaaZc
namespace Go.Proofs.Ytiafhgcnjgpeaaa.lawTradeAll
open Go.RowKit Go.K Go.ChangeShapes Go.WideShapes Go.ChangeAt
set_option linter.unusedVariables false
set_option linter.unusedSimpArgs false
set_option maxRecDepth 100000 in
set_option maxHeartbeats 4000000 in
theorem walk (c : Con) (w : World) (hc : ConOk w c) : Calls Try.prog 6 #[c.agg] w fun r w' => r = .returned (.bool true) ∧ Below w.heap.size w w' := by
  have HC := Lib.hid hc
  have HK19 := Lib.hid (fun V (h : Below w.heap.size w V) => back_any c V (hc.kept h))
  have HK18 := Lib.hid (fun V (h : Below w.heap.size w V) => end_any c V (hc.kept h))
  have HGL := Lib.hid (show (backV c.es).length ≤ 5864062014634 by have := backV_length_le c.es; have := hc.mx; omega)
  have HN := Lib.hid (nOf_backV c.es)
  have HS := Lib.hid (sOf_backV c.es)
  have HI := Lib.hid (iOf_backV c.es)
  have HWH := Lib.hid (whole_backV c.es)
  have HMX := Lib.hid hc.mx
  clear hc
  generalize backV c.es = G at *
  have hgl := HGL.out
  unfold Con.agg at *
  go_enter Try.func6, Try.ntmps6
  have HB0 := Lib.hid ((Below.refl w.heap.size w).alloc (Nat.le_refl _) (.cells #[.int .i64 c.num, .int .i64 c.kind, .int .i64 c.by', .int .i64 c.dl, .int .i64 c.to, .int .i64 c.want, .int .u64 c.price, .int .u64 c.reserve, .int .u64 c.step, .int .i64 c.of', .slice c.ea c.es.length c.ec] 25))
  go_wp2_with fail
  refine (awake_any _).mono ?_
  rintro r0 w1 ⟨rfl, hb⟩
  have R1 := Lib.hid (show Box w1 w.heap.size c from row_kept (alloc_at rfl) hb)
  have HB1 := Lib.hid (HB0.out.trans (hb.mono (by simp)))
  clear hb
  go_wp2
  go_loopw [3] (fun k wr => ∃ j : Nat, j ≤ 2 ∧ k = .int .i64 j ∧ Below w.heap.size w wr ∧ Box wr w.heap.size c) (fun k _ => 2 - (intOf k).toNat)
  case atStart => exact ⟨0, by omega, rfl, HB1.out, R1.out⟩
  case round =>
    obtain ⟨j, hj, rfl, hb, hr⟩ := hrel
    have HB := Lib.hid hb
    have R := Lib.hid hr
    clear hb hr
    by_cases hlt : j < 2
    case neg =>
      have t0 : decide ((j : Int) < 2) = false := by simp; omega
      go_wp2
      go_ret
      exact ⟨rfl, HB.out⟩
    case pos =>
      have t0 : decide ((j : Int) < 2) = true := by simp; omega
      have jl : (j : Int) < 2 := by omega
      obtain ⟨p0, p1, p2, p3, p4, p5, p6, p7, p8, p9, p10⟩ := R.out.cells
      go_wp2_with fail
      refine (HK19.out _ HB.out).mono ?_
      rintro r0 w2 ⟨aa, ac, rfl, ha, han, hb⟩
      have R := Lib.hid (R.out.kept hb)
      have HB := Lib.hid (HB.out.trans (hb.mono HB.out.size))
      have HA := Lib.hid (sl_owns ha)
      clear hb ha han
      clear p0 p1 p2 p3 p4 p5 p6 p7 p8 p9 p10
      by_cases h1 : j = 1
      case pos =>
        have t1 : ((j : Int) == 1) = true := by simp; omega
        obtain ⟨p0, p1, p2, p3, p4, p5, p6, p7, p8, p9, p10⟩ := R.out.cells
        go_wp2_with fail
        refine (HK18.out _ HB.out).mono ?_
        clear HA
        rintro r0 w3 ⟨aa, ac, rfl, ha, han, hb⟩
        have R := Lib.hid (R.out.kept hb)
        have HB := Lib.hid (HB.out.trans (hb.mono HB.out.size))
        have HA := Lib.hid (sl_owns ha)
        clear hb ha han
        clear p0 p1 p2 p3 p4 p5 p6 p7 p8 p9 p10
        have K31 := Lib.hid (whole_true aa G.length G w3 HGL.out HA.out HWH.out)
        go_wp2_with fail
        with_reducible refine K31.out.mono ?_
        rintro r0 w4 ⟨rfl, hq⟩
        have hb := hq.below w3.heap.size
        have R := Lib.hid (R.out.kept hb)
        have HB := Lib.hid (HB.out.trans (hb.mono HB.out.size))
        have HA := Lib.hid (HA.out.kept hb)
        clear hb hq K31
        go_wp2
        go_loopw [5, 6] (fun t i wa => ∃ q : Nat, q ≤ G.length ∧ i = .int .i64 q ∧ t = .int .i64 (iOf (G.take q)) ∧ Qt w4 wa) (fun _ i _ => G.length - (intOf i).toNat)
        case atStart => exact ⟨0, by omega, rfl, by simp [iOf], Qt.refl _⟩
        case round =>
          obtain ⟨wa, hwa⟩ : ∃ W, W = wr := ⟨_, rfl⟩
          subst hwa
          obtain ⟨q, hqn, rfl, rfl, hq⟩ := hrel
          have HQ := Lib.hid hq
          clear hq
          by_cases hlq : q < G.length
          case pos =>
            have u0 : decide ((q : Int) < (G.length : Int)) = true := by simp; omega
            have u1 : (q : Int) < (G.length : Int) := by omega
            obtain ⟨gb, go, haa, x0, x1, x2⟩ := gift_at (HQ.out.sl HA.out) q hlq
            have HIS := Lib.hid (iOf_succ G q hlq)
            have hib := iOf_bound (G.take q)
            have hi1 : iOf (G.take q) ≤ q := Int.le_trans hib.2 (by simp; omega)
            have hi0 := hib.1
            clear hib
            subst haa
            generalize G[q].item = gi at *
            generalize iOf (G.take q) = it at *
            by_cases hz : gi = 0
            · have z0 : (gi != 0) = false := by simpa using hz
              have HIS := Lib.hid (HIS.out.trans (show _ = it by rw [if_neg (by simpa using hz)]; omega))
              clear hz
              go_wp2
              go_roundw
              case rel => exact ⟨q + 1, by omega, by go_num, by rw [HIS.out], HQ.out⟩
              case measure => simp [intOf]; omega
            · have z0 : (gi != 0) = true := by simpa using hz
              have HIS := Lib.hid (HIS.out.trans (show _ = it + 1 by rw [if_pos hz]))
              clear hz
              go_wp2
              go_roundw
              case rel => exact ⟨q + 1, by omega, by go_num, by rw [HIS.out], HQ.out⟩
              case measure => simp [intOf]; omega
          case neg =>
            have u0 : decide ((q : Int) < (G.length : Int)) = false := by simp; omega
            have HE := Lib.hid (show iOf (G.take q) = iOf (c.es.map entG) from by rw [List.take_of_length_le (by omega)]; exact HI.out)
            rw [HE.out]
            have hb := HQ.out.below w4.heap.size
            have R := Lib.hid (R.out.kept hb)
            have HB := Lib.hid (HB.out.trans (hb.mono HB.out.size))
            have HA := Lib.hid (HA.out.kept hb)
            clear hb HQ HE
            go_wp2
            go_loopw [5, 7] (fun t i wb => ∃ q : Nat, q ≤ c.es.length ∧ i = .int .i64 q ∧ t = .int .i64 (iOf (c.es.map entG) - iOf ((c.es.map entG).take q)) ∧ Below wa.heap.size wa wb) (fun _ i _ => c.es.length - (intOf i).toNat)
            case atStart => exact ⟨0, by omega, rfl, by simp [iOf], Below.refl _ _⟩
            case round =>
              obtain ⟨wb, hwb⟩ : ∃ W, W = wr := ⟨_, rfl⟩
              subst hwb
              obtain ⟨q, hqn, rfl, rfl, hbl⟩ := hrel
              have RB := Lib.hid (R.out.kept hbl)
              have HBB := Lib.hid (HB.out.trans (hbl.mono HB.out.size))
              have HAB := Lib.hid (HA.out.kept hbl)
              have HBL := Lib.hid hbl
              clear hbl
              by_cases hlq : q < c.es.length
              case pos =>
                have u0 : decide ((q : Int) < (c.es.length : Int)) = true := by simp; omega
                have u1 : (q : Int) < (c.es.length : Int) := by omega
                obtain ⟨ob, oo, hea, f0, f1, f2, f3, f4⟩ := ent_at ((HC.out.kept HBB.out).sl) q hlq
                obtain ⟨p0, p1, p2, p3, p4, p5, p6, p7, p8, p9, p10⟩ := RB.out.cells
                rw [hea] at p10
                have HIS := Lib.hid (iOf_succ (c.es.map entG) q (by simpa using hlq))
                rw [show (c.es.map entG)[q]'(by simpa using hlq) = entG c.es[q] by simp] at HIS
                have hib := iOf_bound ((c.es.map entG).take q)
                have hi1 : iOf ((c.es.map entG).take q) ≤ q := Int.le_trans hib.2 (by simp; omega)
                have hi0 := hib.1
                have hjb := iOf_bound (c.es.map entG)
                have hj0 := hjb.1
                have hj1 : iOf (c.es.map entG) ≤ c.es.length := by simpa using hjb.2
                have hmx := HMX.out
                clear hib hjb
                generalize c.es[q] = x at *
                have K32 := Lib.hid (fun V (h : Below w.heap.size w V) => holds_any c.ea c.ec c.es x.acc x.item V HMX.out ((HC.out.kept h).sl))
                have K33 := Lib.hid (fun V (h : Sl V aa (gFlat G)) => gets_any aa G.length G x.acc x.item V HGL.out h)
                rw [hea] at K32
                have HEA := Lib.hid hea
                clear hea
                rw [HN.out, HS.out] at K33
                generalize hNN : nOf (c.es.map entG) x.acc x.item = NN at *
                generalize hSS : IntKind.u64.wrap (sOf (c.es.map entG) x.acc) = SS at *
                clear hNN hSS
                have v1 : (NN != NN) = false := by simp
                have v2 : (SS != SS) = false := by simp
                have HX := Lib.hid (show (entG x).item = x.item from rfl)
                generalize hIQ : iOf ((c.es.map entG).take q) = iq at *
                generalize hIT : iOf (c.es.map entG) = it at *
                clear hIQ hIT
                have HBX := Lib.hid (fun V (h : Below wb.heap.size wb V) => HBB.out.trans (h.mono HBB.out.size))
                have XA := Lib.hid ((Below.refl wb.heap.size wb).alloc (Nat.le_refl _) (.cells #[.int .i64 x.acc, .int .i64 x.item, .int .u64 x.coins, .int .u64 x.price, .slice x.wa x.ws.length x.wc] 44))
                have k10 := p10
                clear p0 p1 p2 p3 p4 p5 p6 p7 p8 p9 p10
                by_cases hz : x.item = 0
                · have z0 : (x.item != 0) = false := by simpa using hz
                  have HIS := Lib.hid (HIS.out.trans (show _ = iq by rw [HX.out, if_neg (by simpa using hz)]; omega))
                  clear hz
                  obtain ⟨p0, p1, p2, p3, p4, p5, p6, p7, p8, p9, p10⟩ := RB.out.cellsA
                  rw [HEA.out] at p10
                  go_wp2_with fail
                  with_reducible refine (K32.out _ (HBX.out _ XA.out)).mono ?_
                  rintro r0 w5 ⟨rfl, hq⟩
                  have XB := Lib.hid (XA.out.trans (hq.below _))
                  have E5 : EBox w5 wb.heap.size x := row_kept (alloc_at rfl) (hq.below _)
                  have HA5 := Lib.hid (HAB.out.kept XB.out)
                  obtain ⟨e0, e1, e2, e3, e4⟩ := E5.cells
                  clear hq E5
                  clear p0 p1 p2 p3 p4 p5 p6 p7 p8 p9 p10
                  go_wp2_with fail
                  with_reducible refine (K33.out _ HA5.out).mono ?_
                  rintro r0 w6 ⟨rfl, hq⟩
                  have XC := Lib.hid (HBL.out.trans ((XB.out.trans (hq.below _)).mono HBL.out.size))
                  clear hq e0 e1 e2 e3 e4
                  go_wp2
                  go_roundw
                  case rel => exact ⟨q + 1, by omega, by go_num, by rw [HIS.out], XC.out⟩
                  case measure => simp [intOf]; omega
                · have z0 : (x.item != 0) = true := by simpa using hz
                  have HIS := Lib.hid (HIS.out.trans (show _ = iq + 1 by rw [HX.out, if_pos hz]))
                  clear hz
                  obtain ⟨p0, p1, p2, p3, p4, p5, p6, p7, p8, p9, p10⟩ := RB.out.cellsA
                  rw [HEA.out] at p10
                  go_wp2_with fail
                  with_reducible refine (K32.out _ (HBX.out _ XA.out)).mono ?_
                  rintro r0 w5 ⟨rfl, hq⟩
                  have XB := Lib.hid (XA.out.trans (hq.below _))
                  have E5 : EBox w5 wb.heap.size x := row_kept (alloc_at rfl) (hq.below _)
                  have HA5 := Lib.hid (HAB.out.kept XB.out)
                  obtain ⟨e0, e1, e2, e3, e4⟩ := E5.cells
                  clear hq E5
                  clear p0 p1 p2 p3 p4 p5 p6 p7 p8 p9 p10
                  go_wp2_with fail
                  with_reducible refine (K33.out _ HA5.out).mono ?_
                  rintro r0 w6 ⟨rfl, hq⟩
                  have XC := Lib.hid (HBL.out.trans ((XB.out.trans (hq.below _)).mono HBL.out.size))
                  clear hq e0 e1 e2 e3 e4
                  go_wp2
                  go_roundw
                  case rel => exact ⟨q + 1, by omega, by go_num, by rw [HIS.out]; go_num, XC.out⟩
                  case measure => simp [intOf]; omega
              case neg =>
                have u0 : decide ((q : Int) < (c.es.length : Int)) = false := by simp; omega
                have z0 : (iOf (c.es.map entG) - iOf ((c.es.map entG).take q) != 0) = false := by rw [List.take_of_length_le (by simp; omega)]; simp
                generalize iOf (c.es.map entG) - iOf ((c.es.map entG).take q) = it at *
                obtain ⟨p0, p1, p2, p3, p4, p5, p6, p7, p8, p9, p10⟩ := RB.out.cells
                go_wp2
                clear p0 p1 p2 p3 p4 p5 p6 p7 p8 p9 p10
                go_loopw [13] (fun i wc => ∃ q : Nat, q ≤ G.length ∧ i = .int .i64 q ∧ Qt wb wc) (fun i _ => G.length - (intOf i).toNat)
                case atStart => exact ⟨0, by omega, rfl, Qt.refl _⟩
                case round =>
                  obtain ⟨wc, hwc⟩ : ∃ W, W = wr := ⟨_, rfl⟩
                  subst hwc
                  obtain ⟨q, hqn, rfl, hq⟩ := hrel
                  have HQ := Lib.hid hq
                  clear hq
                  by_cases hlq : q < G.length
                  case pos =>
                    have u0 : decide ((q : Int) < (G.length : Int)) = true := by simp; omega
                    have u1 : (q : Int) < (G.length : Int) := by omega
                    obtain ⟨gb, go, haa, x0, x1, x2⟩ := gift_at (HQ.out.sl HAB.out) q hlq
                    have R7 := RB.out.kept (HQ.out.below _)
                    obtain ⟨p0, p1, p2, p3, p4, p5, p6, p7, p8, p9, p10⟩ := R7.cells
                    have HB7 := Lib.hid (HBB.out.trans ((HQ.out.below _).mono HBB.out.size))
                    generalize G[q].to = gt at *
                    generalize G[q].item = gi at *
                    have K32 := Lib.hid (fun V (h : Qt wc V) => (holds_any c.ea c.ec c.es gt gi V HMX.out ((HC.out.kept (HB7.out.trans (h.below _))).sl)).mono (fun r w' ⟨h1, h2⟩ => (⟨h1, h.trans h2⟩ : _ ∧ Qt wc w')))
                    have K33 := Lib.hid (fun V (h : Qt wc V) => (gets_any aa G.length G gt gi V HGL.out ((HQ.out.trans h).sl HAB.out)).mono (fun r w' ⟨h1, h2⟩ => (⟨h1, h.trans h2⟩ : _ ∧ Qt wc w')))
                    rw [HN.out, HS.out] at K33
                    generalize hNN : nOf (c.es.map entG) gt gi = NN at *
                    generalize hSS : IntKind.u64.wrap (sOf (c.es.map entG) gt) = SS at *
                    clear hNN hSS
                    have v1 : (NN != NN) = false := by simp
                    have v2 : (SS != SS) = false := by simp
                    subst haa
                    go_wp2
                    refine wp_region_inv 18 (fun W => Qt wc W) (by kernel_rfl) (by kernel_rfl) (fun n => ⟨n, rfl⟩) ?_
                    simp only [List.take_succ_cons, List.take_zero]
                    iterate 18
                      apply wpInv_cons
                      · rfl
                      · intro Wx hw
                        have k1 := (hw.cell ⟨w.heap.size, 10, none⟩).trans p10
                        have k2 := (hw.cell ⟨gb, go + q * 3, none⟩).trans x0
                        have k3 := (hw.cell ⟨gb, go + q * 3 + 1, none⟩).trans x1
                        go_simp
                        first
                          | exact ⟨hw, rfl⟩
                          | (show Calls _ _ _ _ _; with_reducible exact K32.out _ hw)
                    intro w7 hq7
                    have y0 := (hq7.cell ⟨gb, go + q * 3, none⟩).trans x0
                    have y1 := (hq7.cell ⟨gb, go + q * 3 + 1, none⟩).trans x1
                    have HQ7 := Lib.hid hq7
                    clear hq7
                    simp only [Act.put, List.setIfInBounds_toArray, List.set_cons_zero, List.set_cons_succ, List.drop_succ_cons, List.drop_zero]
                    go_wp2
                    refine wp_region_inv 17 (fun W => Qt wc W) (by kernel_rfl) (by kernel_rfl) (fun n => HQ7.out.trans ⟨n, rfl⟩) ?_
                    simp only [List.take_succ_cons, List.take_zero]
                    iterate 17
                      apply wpInv_cons
                      · rfl
                      · intro Wx hw
                        have k2 := (hw.cell ⟨gb, go + q * 3, none⟩).trans x0
                        have k3 := (hw.cell ⟨gb, go + q * 3 + 1, none⟩).trans x1
                        go_simp
                        first
                          | exact ⟨hw, rfl⟩
                          | (show Calls _ _ _ _ _; with_reducible exact K33.out _ hw)
                    intro w8 hq8
                    have HQ8 := Lib.hid hq8
                    clear hq8
                    simp only [Act.put, List.setIfInBounds_toArray, List.set_cons_zero, List.set_cons_succ, List.drop_succ_cons, List.drop_zero]
                    go_wp2
                    go_roundw
                    case rel => exact ⟨q + 1, by omega, by go_num, HQ.out.trans HQ8.out⟩
                    case measure => simp [intOf]; omega
                  case neg =>
                    have u0 : decide ((q : Int) < (G.length : Int)) = false := by simp; omega
                    have R8 := Lib.hid (RB.out.kept (HQ.out.below _))
                    have HB8 := Lib.hid (HBB.out.trans ((HQ.out.below _).mono HBB.out.size))
                    go_wp2
                    go_roundw
                    case rel => exact ⟨j + 1, by omega, by go_num, HB8.out, R8.out⟩
                    case measure => simp [intOf]; omega
      case neg =>
        have t1 : ((j : Int) == 1) = false := by simp; omega
        have K31 := Lib.hid (whole_true aa G.length G w2 HGL.out HA.out HWH.out)
        go_wp2_with fail
        with_reducible refine K31.out.mono ?_
        rintro r0 w4 ⟨rfl, hq⟩
        have hb := hq.below w2.heap.size
        have R := Lib.hid (R.out.kept hb)
        have HB := Lib.hid (HB.out.trans (hb.mono HB.out.size))
        have HA := Lib.hid (HA.out.kept hb)
        clear hb hq K31
        go_wp2
        go_loopw [5, 6] (fun t i wa => ∃ q : Nat, q ≤ G.length ∧ i = .int .i64 q ∧ t = .int .i64 (iOf (G.take q)) ∧ Qt w4 wa) (fun _ i _ => G.length - (intOf i).toNat)
        case atStart => exact ⟨0, by omega, rfl, by simp [iOf], Qt.refl _⟩
        case round =>
          obtain ⟨wa, hwa⟩ : ∃ W, W = wr := ⟨_, rfl⟩
          subst hwa
          obtain ⟨q, hqn, rfl, rfl, hq⟩ := hrel
          have HQ := Lib.hid hq
          clear hq
          by_cases hlq : q < G.length
          case pos =>
            have u0 : decide ((q : Int) < (G.length : Int)) = true := by simp; omega
            have u1 : (q : Int) < (G.length : Int) := by omega
            obtain ⟨gb, go, haa, x0, x1, x2⟩ := gift_at (HQ.out.sl HA.out) q hlq
            have HIS := Lib.hid (iOf_succ G q hlq)
            have hib := iOf_bound (G.take q)
            have hi1 : iOf (G.take q) ≤ q := Int.le_trans hib.2 (by simp; omega)
            have hi0 := hib.1
            clear hib
            subst haa
            generalize G[q].item = gi at *
            generalize iOf (G.take q) = it at *
            by_cases hz : gi = 0
            · have z0 : (gi != 0) = false := by simpa using hz
              have HIS := Lib.hid (HIS.out.trans (show _ = it by rw [if_neg (by simpa using hz)]; omega))
              clear hz
              go_wp2
              go_roundw
              case rel => exact ⟨q + 1, by omega, by go_num, by rw [HIS.out], HQ.out⟩
              case measure => simp [intOf]; omega
            · have z0 : (gi != 0) = true := by simpa using hz
              have HIS := Lib.hid (HIS.out.trans (show _ = it + 1 by rw [if_pos hz]))
              clear hz
              go_wp2
              go_roundw
              case rel => exact ⟨q + 1, by omega, by go_num, by rw [HIS.out], HQ.out⟩
              case measure => simp [intOf]; omega
          case neg =>
            have u0 : decide ((q : Int) < (G.length : Int)) = false := by simp; omega
            have HE := Lib.hid (show iOf (G.take q) = iOf (c.es.map entG) from by rw [List.take_of_length_le (by omega)]; exact HI.out)
            rw [HE.out]
            have hb := HQ.out.below w4.heap.size
            have R := Lib.hid (R.out.kept hb)
            have HB := Lib.hid (HB.out.trans (hb.mono HB.out.size))
            have HA := Lib.hid (HA.out.kept hb)
            clear hb HQ HE
            go_wp2
            go_loopw [5, 7] (fun t i wb => ∃ q : Nat, q ≤ c.es.length ∧ i = .int .i64 q ∧ t = .int .i64 (iOf (c.es.map entG) - iOf ((c.es.map entG).take q)) ∧ Below wa.heap.size wa wb) (fun _ i _ => c.es.length - (intOf i).toNat)
            case atStart => exact ⟨0, by omega, rfl, by simp [iOf], Below.refl _ _⟩
            case round =>
              obtain ⟨wb, hwb⟩ : ∃ W, W = wr := ⟨_, rfl⟩
              subst hwb
              obtain ⟨q, hqn, rfl, rfl, hbl⟩ := hrel
              have RB := Lib.hid (R.out.kept hbl)
              have HBB := Lib.hid (HB.out.trans (hbl.mono HB.out.size))
              have HAB := Lib.hid (HA.out.kept hbl)
              have HBL := Lib.hid hbl
              clear hbl
              by_cases hlq : q < c.es.length
              case pos =>
                have u0 : decide ((q : Int) < (c.es.length : Int)) = true := by simp; omega
                have u1 : (q : Int) < (c.es.length : Int) := by omega
                obtain ⟨ob, oo, hea, f0, f1, f2, f3, f4⟩ := ent_at ((HC.out.kept HBB.out).sl) q hlq
                obtain ⟨p0, p1, p2, p3, p4, p5, p6, p7, p8, p9, p10⟩ := RB.out.cells
                rw [hea] at p10
                have HIS := Lib.hid (iOf_succ (c.es.map entG) q (by simpa using hlq))
                rw [show (c.es.map entG)[q]'(by simpa using hlq) = entG c.es[q] by simp] at HIS
                have hib := iOf_bound ((c.es.map entG).take q)
                have hi1 : iOf ((c.es.map entG).take q) ≤ q := Int.le_trans hib.2 (by simp; omega)
                have hi0 := hib.1
                have hjb := iOf_bound (c.es.map entG)
                have hj0 := hjb.1
                have hj1 : iOf (c.es.map entG) ≤ c.es.length := by simpa using hjb.2
                have hmx := HMX.out
                clear hib hjb
                generalize c.es[q] = x at *
                have K32 := Lib.hid (fun V (h : Below w.heap.size w V) => holds_any c.ea c.ec c.es x.acc x.item V HMX.out ((HC.out.kept h).sl))
                have K33 := Lib.hid (fun V (h : Sl V aa (gFlat G)) => gets_any aa G.length G x.acc x.item V HGL.out h)
                rw [hea] at K32
                have HEA := Lib.hid hea
                clear hea
                rw [HN.out, HS.out] at K33
                generalize hNN : nOf (c.es.map entG) x.acc x.item = NN at *
                generalize hSS : IntKind.u64.wrap (sOf (c.es.map entG) x.acc) = SS at *
                clear hNN hSS
                have v1 : (NN != NN) = false := by simp
                have v2 : (SS != SS) = false := by simp
                have HX := Lib.hid (show (entG x).item = x.item from rfl)
                generalize hIQ : iOf ((c.es.map entG).take q) = iq at *
                generalize hIT : iOf (c.es.map entG) = it at *
                clear hIQ hIT
                have HBX := Lib.hid (fun V (h : Below wb.heap.size wb V) => HBB.out.trans (h.mono HBB.out.size))
                have XA := Lib.hid ((Below.refl wb.heap.size wb).alloc (Nat.le_refl _) (.cells #[.int .i64 x.acc, .int .i64 x.item, .int .u64 x.coins, .int .u64 x.price, .slice x.wa x.ws.length x.wc] 44))
                have k10 := p10
                clear p0 p1 p2 p3 p4 p5 p6 p7 p8 p9 p10
                by_cases hz : x.item = 0
                · have z0 : (x.item != 0) = false := by simpa using hz
                  have HIS := Lib.hid (HIS.out.trans (show _ = iq by rw [HX.out, if_neg (by simpa using hz)]; omega))
                  clear hz
                  obtain ⟨p0, p1, p2, p3, p4, p5, p6, p7, p8, p9, p10⟩ := RB.out.cellsA
                  rw [HEA.out] at p10
                  go_wp2_with fail
                  with_reducible refine (K32.out _ (HBX.out _ XA.out)).mono ?_
                  rintro r0 w5 ⟨rfl, hq⟩
                  have XB := Lib.hid (XA.out.trans (hq.below _))
                  have E5 : EBox w5 wb.heap.size x := row_kept (alloc_at rfl) (hq.below _)
                  have HA5 := Lib.hid (HAB.out.kept XB.out)
                  obtain ⟨e0, e1, e2, e3, e4⟩ := E5.cells
                  clear hq E5
                  clear p0 p1 p2 p3 p4 p5 p6 p7 p8 p9 p10
                  go_wp2_with fail
                  with_reducible refine (K33.out _ HA5.out).mono ?_
                  rintro r0 w6 ⟨rfl, hq⟩
                  have XC := Lib.hid (HBL.out.trans ((XB.out.trans (hq.below _)).mono HBL.out.size))
                  clear hq e0 e1 e2 e3 e4
                  go_wp2
                  go_roundw
                  case rel => exact ⟨q + 1, by omega, by go_num, by rw [HIS.out], XC.out⟩
                  case measure => simp [intOf]; omega
                · have z0 : (x.item != 0) = true := by simpa using hz
                  have HIS := Lib.hid (HIS.out.trans (show _ = iq + 1 by rw [HX.out, if_pos hz]))
                  clear hz
                  obtain ⟨p0, p1, p2, p3, p4, p5, p6, p7, p8, p9, p10⟩ := RB.out.cellsA
                  rw [HEA.out] at p10
                  go_wp2_with fail
                  with_reducible refine (K32.out _ (HBX.out _ XA.out)).mono ?_
                  rintro r0 w5 ⟨rfl, hq⟩
                  have XB := Lib.hid (XA.out.trans (hq.below _))
                  have E5 : EBox w5 wb.heap.size x := row_kept (alloc_at rfl) (hq.below _)
                  have HA5 := Lib.hid (HAB.out.kept XB.out)
                  obtain ⟨e0, e1, e2, e3, e4⟩ := E5.cells
                  clear hq E5
                  clear p0 p1 p2 p3 p4 p5 p6 p7 p8 p9 p10
                  go_wp2_with fail
                  with_reducible refine (K33.out _ HA5.out).mono ?_
                  rintro r0 w6 ⟨rfl, hq⟩
                  have XC := Lib.hid (HBL.out.trans ((XB.out.trans (hq.below _)).mono HBL.out.size))
                  clear hq e0 e1 e2 e3 e4
                  go_wp2
                  go_roundw
                  case rel => exact ⟨q + 1, by omega, by go_num, by rw [HIS.out]; go_num, XC.out⟩
                  case measure => simp [intOf]; omega
              case neg =>
                have u0 : decide ((q : Int) < (c.es.length : Int)) = false := by simp; omega
                have z0 : (iOf (c.es.map entG) - iOf ((c.es.map entG).take q) != 0) = false := by rw [List.take_of_length_le (by simp; omega)]; simp
                generalize iOf (c.es.map entG) - iOf ((c.es.map entG).take q) = it at *
                obtain ⟨p0, p1, p2, p3, p4, p5, p6, p7, p8, p9, p10⟩ := RB.out.cells
                go_wp2
                clear p0 p1 p2 p3 p4 p5 p6 p7 p8 p9 p10
                go_loopw [13] (fun i wc => ∃ q : Nat, q ≤ G.length ∧ i = .int .i64 q ∧ Qt wb wc) (fun i _ => G.length - (intOf i).toNat)
                case atStart => exact ⟨0, by omega, rfl, Qt.refl _⟩
                case round =>
                  obtain ⟨wc, hwc⟩ : ∃ W, W = wr := ⟨_, rfl⟩
                  subst hwc
                  obtain ⟨q, hqn, rfl, hq⟩ := hrel
                  have HQ := Lib.hid hq
                  clear hq
                  by_cases hlq : q < G.length
                  case pos =>
                    have u0 : decide ((q : Int) < (G.length : Int)) = true := by simp; omega
                    have u1 : (q : Int) < (G.length : Int) := by omega
                    obtain ⟨gb, go, haa, x0, x1, x2⟩ := gift_at (HQ.out.sl HAB.out) q hlq
                    have R7 := RB.out.kept (HQ.out.below _)
                    obtain ⟨p0, p1, p2, p3, p4, p5, p6, p7, p8, p9, p10⟩ := R7.cells
                    have HB7 := Lib.hid (HBB.out.trans ((HQ.out.below _).mono HBB.out.size))
                    generalize G[q].to = gt at *
                    generalize G[q].item = gi at *
                    have K32 := Lib.hid (fun V (h : Qt wc V) => (holds_any c.ea c.ec c.es gt gi V HMX.out ((HC.out.kept (HB7.out.trans (h.below _))).sl)).mono (fun r w' ⟨h1, h2⟩ => (⟨h1, h.trans h2⟩ : _ ∧ Qt wc w')))
                    have K33 := Lib.hid (fun V (h : Qt wc V) => (gets_any aa G.length G gt gi V HGL.out ((HQ.out.trans h).sl HAB.out)).mono (fun r w' ⟨h1, h2⟩ => (⟨h1, h.trans h2⟩ : _ ∧ Qt wc w')))
                    rw [HN.out, HS.out] at K33
                    generalize hNN : nOf (c.es.map entG) gt gi = NN at *
                    generalize hSS : IntKind.u64.wrap (sOf (c.es.map entG) gt) = SS at *
                    clear hNN hSS
                    have v1 : (NN != NN) = false := by simp
                    have v2 : (SS != SS) = false := by simp
                    subst haa
                    go_wp2
                    refine wp_region_inv 18 (fun W => Qt wc W) (by kernel_rfl) (by kernel_rfl) (fun n => ⟨n, rfl⟩) ?_
                    simp only [List.take_succ_cons, List.take_zero]
                    iterate 18
                      apply wpInv_cons
                      · rfl
                      · intro Wx hw
                        have k1 := (hw.cell ⟨w.heap.size, 10, none⟩).trans p10
                        have k2 := (hw.cell ⟨gb, go + q * 3, none⟩).trans x0
                        have k3 := (hw.cell ⟨gb, go + q * 3 + 1, none⟩).trans x1
                        go_simp
                        first
                          | exact ⟨hw, rfl⟩
                          | (show Calls _ _ _ _ _; with_reducible exact K32.out _ hw)
                    intro w7 hq7
                    have y0 := (hq7.cell ⟨gb, go + q * 3, none⟩).trans x0
                    have y1 := (hq7.cell ⟨gb, go + q * 3 + 1, none⟩).trans x1
                    have HQ7 := Lib.hid hq7
                    clear hq7
                    simp only [Act.put, List.setIfInBounds_toArray, List.set_cons_zero, List.set_cons_succ, List.drop_succ_cons, List.drop_zero]
                    go_wp2
                    refine wp_region_inv 17 (fun W => Qt wc W) (by kernel_rfl) (by kernel_rfl) (fun n => HQ7.out.trans ⟨n, rfl⟩) ?_
                    simp only [List.take_succ_cons, List.take_zero]
                    iterate 17
                      apply wpInv_cons
                      · rfl
                      · intro Wx hw
                        have k2 := (hw.cell ⟨gb, go + q * 3, none⟩).trans x0
                        have k3 := (hw.cell ⟨gb, go + q * 3 + 1, none⟩).trans x1
                        go_simp
                        first
                          | exact ⟨hw, rfl⟩
                          | (show Calls _ _ _ _ _; with_reducible exact K33.out _ hw)
                    intro w8 hq8
                    have HQ8 := Lib.hid hq8
                    clear hq8
                    simp only [Act.put, List.setIfInBounds_toArray, List.set_cons_zero, List.set_cons_succ, List.drop_succ_cons, List.drop_zero]
                    go_wp2
                    go_roundw
                    case rel => exact ⟨q + 1, by omega, by go_num, HQ.out.trans HQ8.out⟩
                    case measure => simp [intOf]; omega
                  case neg =>
                    have u0 : decide ((q : Int) < (G.length : Int)) = false := by simp; omega
                    have R8 := Lib.hid (RB.out.kept (HQ.out.below _))
                    have HB8 := Lib.hid (HBB.out.trans ((HQ.out.below _).mono HBB.out.size))
                    go_wp2
                    go_roundw
                    case rel => exact ⟨j + 1, by omega, by go_num, HB8.out, R8.out⟩
                    case measure => simp [intOf]; omega
theorem own : ownKnob Try.prog.godebug = none := by kernel_rfl
theorem laidOut : laidOutB Try.prog = true := by kernel_rfl
set_option maxRecDepth 100000 in
theorem lifted (os : Os) (started : os.Started) (H : Type) (enc : TypeId × Value → H) :
    ReturnsInHanded {} Try.checked os 6 .any (Rows.tradeAllSpec.pre6 enc Try.prog Try.f6 Rows.tradeAllRow.domain false) (Rows.tradeAllSpec.post enc Try.prog Try.f6 false true false false) := by
  refine returnsInHanded_of_change_sized (C := Try.checked) own started (by kernel_rfl) Try.func6
    (ChangeSpec.witness6 (enc := enc) (C := Try.checked) false ⟨#[], #[.agg #[.int .i64 0, .int .i64 0, .int .i64 0, .int .i64 0, .int .i64 0, .int .i64 0, .int .u64 0, .int .u64 0, .int .u64 0, .int .i64 0, .slice none 0 0]], []⟩ 8 (by kernel_rfl) (by kernel_rfl) (by kernel_rfl) (by kernel_rfl)) ?_
  intro W base args ds gs before hval0 hW hcnd hsz0 _
  have hsz : (DataW.weightsEach Try.prog (Try.f6.params.toList ++ Rows.tradeAllSpec.plain.varTypes Try.prog) (ds ++ gs)).all (· ≤ reachBytes) = true := hsz0
  clear hsz0
  have hval : ∀ (j : Nat) t v, Try.f6.params[j]? = some t → args[j]? = some v → Value.okWide Try.prog W .any base t v := hval0
  have hW' := hW
  obtain ⟨p, q, hA0, hV, rfl, hfz, hnd⟩ := hW
  have hA : DataW.TrodAll enc Try.prog W 0 (fun _ => true) true Try.f6.params.toList args.toList ds p := hA0
  rw [Try.params6] at hA hval hsz
  obtain ⟨v0, vs0, d0, ds0, p0, q0, hargs, rfl, rfl, h0, r0⟩ := trodAll_cons hA
  obtain ⟨rfl, rfl, rfl⟩ := trodAll_nil r0
  obtain rfl : args = #[v0] := by cases args; simp_all
  obtain ⟨rfl, rfl⟩ := trodVars_none hV
  have k0 := h0
  have lt0 : ∀ x ∈ p0, x.block < W.heap.size := by obtain ⟨m, hm⟩ := k0; exact DataW.trod_lt m _ _ _ hm
  obtain ⟨c0, rfl, n0⟩ := open_con (hval 0 25 v0 rfl rfl) h0 hsz (j := 0) rfl rfl
  clear hA0 hval0
  refine (walk c0 W n0).mono fun e W' ⟨he, bel⟩ => ?_
  subst he
  exact ⟨_, rfl, _, _, _, [], _, [], hW', trodAll_mk1 (shut_bool Try.underlying4 _), (trodAll_cons_mk (Below.trod laidOut (by kernel_rfl) (of_decide_eq_true (by kernel_rfl)) k0 bel lt0) trodAll_mk0), rfl, bel.frame _, fun h => by cases h⟩
theorem over : Rows.tradeAllRow.holds Try.pinned (OpenSpec.ofChange Rows.tradeAllSpec) :=
  OpenClaim.holds_of_wide 6 Try.f6 rfl rfl rfl rfl rfl rfl rfl ⟨rfl, rfl, rfl, rfl, rfl⟩ rfl rfl rfl rfl rfl (by kernel_rfl) Try.func6 (by kernel_rfl)
    (of_decide_eq_true (by kernel_rfl)) (by unfold Func.isWrapper; first | (rw [if_pos (by decide +kernel)]; kernel_rfl) | (rw [if_neg (by decide +kernel)]; exact ⟨rfl, rfl⟩))
    (fun os started H enc _ => lifted os started H enc)
theorem proved : Rows.TradeAllSaid := over
#print axioms proved
end Go.Proofs.Ytiafhgcnjgpeaaa.lawTradeAll
