/-
  In an English auction the bids that are taken rise by Step or more, from Reserve on; each one that is beaten goes back just then, whole; in the end the last one gets the thing, and the seller its coins.
  No condition beyond the statement's own.
-/
import Derived.Test.YtpejcndfplbikaaMi
import Derived.Deep.RegionHeld3
namespace Go.Proofs.Ytpejcndfplbikaa.lawAuctionRises
open Go.RowKit Go.K Go.Maps Go.ChangeShapes Go.WideShapes Go.ChangeAt
set_option linter.unusedVariables false
set_option linter.unusedSimpArgs false
set_option maxRecDepth 100000 in
set_option maxHeartbeats 8000000 in
theorem walkI (r s : Int) (hr0 : 0 ≤ r) (hr1 : r ≤ 18446744073709551615) (hs0 : 0 ≤ s) (hs1 : s ≤ 18446744073709551615) (X : Ens) (w : World) (hX : EnsOk w X) : Calls Try.prog 7 #[.int .u64 r, .int .u64 s, X.v] w fun e w' => e = .returned (.bool true) ∧ Below w.heap.size w w' := by
  have HX := Lib.hid hX
  have hmx := hX.mx
  clear hX
  unfold Ens.v
  go_enter Try.func7, Try.ntmps7
  go_wp2_with fail
  refine (known_any w).mono ?_
  rintro r1 v0 ⟨rfl, hb⟩
  have HW := Lib.hid hb
  have HG0 := Lib.hid hb.size
  clear hb
  go_wp2_with fail
  refine (begun_q 2 r s v0).mono ?_
  rintro r2 v1 ⟨q, rfl, hN, hD, hb⟩
  have NQ := Lib.hid hN
  have DQ := Lib.hid hD
  have HW := Lib.hid (HW.out.trans (hb.mono HW.out.size))
  have HGB := Lib.hid HW.out.size
  clear hN hD hb
  go_wp2_with fail
  obtain ⟨V1, hV1⟩ : ∃ V, V = v1.alloc (.cells #[.int .i64 q.num, .int .i64 q.kind, .int .i64 q.by', .int .i64 q.dl, .int .i64 q.to', .int .i64 q.want, .int .u64 q.price, .int .u64 q.reserve, .int .u64 q.step, .int .i64 q.of', .slice q.ea q.es.length q.ec] 25) := ⟨_, rfl⟩
  have HA := Lib.hid (show Below v1.heap.size v1 V1 by rw [hV1]; exact (Below.refl _ _).alloc (Nat.le_refl _) _)
  have BQ := Lib.hid (show Box V1 v1.heap.size q by rw [hV1]; exact alloc_at rfl)
  rw [← hV1]
  clear hV1
  have HW := Lib.hid (HW.out.trans (HA.out.mono HW.out.size))
  have NQ := Lib.hid (NQ.out.kept HA.out)
  clear HA
  by_cases hT : 1 ≤ r ∧ r ≤ 4611686018427387904 ∧ 1 ≤ s ∧ s ≤ 4611686018427387904
  case neg =>
    refine (terms_k q (kC 2 r s [e7]) V1 NQ.out.ok DQ.out (terms_not r s hT)).mono ?_
    rintro r3 v2 ⟨rfl, hb⟩
    have HW := Lib.hid (HW.out.trans (hb.mono HW.out.size))
    clear hb
    by_cases h1 : r < 1
    · have c1 : decide (r < 1) = true := decide_eq_true h1
      clear hT
      go_wp2_with (go_at_call 13; (with_reducible refine (num_any _ _).mono ?_); rintro r6 y6 ⟨rfl, rfl⟩)
      go_ret
      exact ⟨rfl, HW.out⟩
    · have c1 : decide (r < 1) = false := decide_eq_false h1
      by_cases h2 : r > 4611686018427387904
      · have c2 : decide (r > 4611686018427387904) = true := decide_eq_true h2
        clear hT h1
        go_wp2_with (go_at_call 13; (with_reducible refine (num_any _ _).mono ?_); rintro r6 y6 ⟨rfl, rfl⟩)
        go_ret
        exact ⟨rfl, HW.out⟩
      · have c2 : decide (r > 4611686018427387904) = false := decide_eq_false h2
        by_cases h3 : s < 1
        · have c3 : decide (s < 1) = true := decide_eq_true h3
          clear hT h1 h2
          go_wp2_with (go_at_call 13; (with_reducible refine (num_any _ _).mono ?_); rintro r6 y6 ⟨rfl, rfl⟩)
          go_ret
          exact ⟨rfl, HW.out⟩
        · have c3 : decide (s < 1) = false := decide_eq_false h3
          have h4 : s > 4611686018427387904 := by omega
          have c4 : decide (s > 4611686018427387904) = true := decide_eq_true h4
          clear hT h1 h2 h3
          go_wp2_with (go_at_call 13; (with_reducible refine (num_any _ _).mono ?_); rintro r6 y6 ⟨rfl, rfl⟩)
          go_ret
          exact ⟨rfl, HW.out⟩
  case pos =>
    have HGV := Lib.hid BQ.out.lt
    have HG1 := Lib.hid HGB.out
    refine (terms_k q (kC 2 r s [e7]) V1 NQ.out.ok DQ.out (terms_rises r s hT)).mono ?_
    rintro r3 v2 ⟨rfl, hb⟩
    have HT := Lib.hid hT
    have HW := Lib.hid (HW.out.trans (hb.mono HW.out.size))
    have NQ := Lib.hid (NQ.out.kept hb)
    have BQ := Lib.hid (BQ.out.kept hb)
    have HGV := Lib.hid (Nat.lt_of_lt_of_le HGV.out hb.size)
    clear hb hT
    have HA := Lib.hid (show Below v2.heap.size v2 (v2.alloc (.cells #[.int .i64 0, .int .i64 0, .int .u64 0, .int .u64 0, .slice none 0 0] 33)) from (Below.refl _ _).alloc (Nat.le_refl _) _)
    go_wp2_with (go_at_call 13; (with_reducible refine (num_any _ _).mono ?_); rintro r6 y6 ⟨rfl, rfl⟩)
    go_loopw [9, 10, 11, 12, 13, 14, 15, 16, 17] (fun x9 i x11 x12 x13 x14 x15 x16 x17 wr => ∃ (k n : Nat) (cur : Con) (a m : Int), k ≤ X.es.length ∧ n ≤ k ∧ i = .int .i64 k ∧ x9 = .int .i64 n ∧ Below w.heap.size w wr ∧ Box wr v1.heap.size cur ∧ NewC w.heap.size wr cur ∧ BoxE wr v2.heap.size (cE a m) ∧ cur.d = (kC 2 r s (kLs n a m)).d ∧ (0 < n → r ≤ m ∧ m ≤ 18446744073709551615)) (fun _ i _ _ _ _ _ _ _ _ => X.es.length - (intOf i).toNat)
    case atStart => exact ⟨0, 0, q, 0, 0, by omega, by omega, rfl, rfl, HW.out.trans (HA.out.mono HW.out.size), BQ.out.kept HA.out, (NQ.out.kept HA.out).base (HG0.out), alloc_at rfl, DQ.out, fun h => by omega⟩
    case round =>
      clear HA HW NQ BQ DQ
      obtain ⟨k, n, cur, a, m, hk, hnk, rfl, rfl, hb, hbx, hnc, hbl, hcd, hm⟩ := hrel
      have HB := Lib.hid hb
      have BX := Lib.hid hbx
      have NC := Lib.hid hnc
      have BL := Lib.hid hbl
      have CD := Lib.hid hcd
      have HM := Lib.hid hm
      have HSZ := Lib.hid (show v2.heap.size < wr.heap.size from lt_row hbl)
      clear hb hbx hnc hbl hcd hm
      by_cases hlt : k < X.es.length
      case neg =>
        have t0 : decide ((k : Int) < (X.es.length : Int)) = false := by simp; omega
        rcases Nat.eq_zero_or_pos n with hn0 | hn0
        · obtain rfl := hn0
          have CD0 := Lib.hid (show cur.d = (kC 2 r s [e7]).d from CD.out)
          obtain ⟨b0, b1, b2, b3, b4, b5, b6, b7, b8, b9, b10⟩ := BX.out.cellsA
          go_wp2_with fail
          clear b0 b1 b2 b3 b4 b5 b6 b7 b8 b9 b10
          have HA := Lib.hid (show Below wr.heap.size wr (wr.alloc (.cells #[.int .i64 1, .int .i64 7, .int .u64 0] 64)) from (Below.refl _ _).alloc (Nat.le_refl _) _)
          refine (end_k cur (kC 2 r s [e7]) _ (NC.out.ok.kept HA.out) CD0.out (end_first r s)).mono ?_
          rintro r9 w3 ⟨ad4, cp4, rfl, hs, hb⟩
          have S4 := Lib.hid hs
          have SG := Lib.hid ((sl_new wr (gFlat [⟨1, 7, 0⟩]) 64 (0, 0)).kept hb)
          have HF := Lib.hid (HB.out.trans ((HA.out.trans (hb.mono HA.out.size)).mono HB.out.size))
          clear hs hb
          simp only [List.length_nil, List.length_cons]
          go_wp2_with fail
          refine (gifts_true ad4 (some ⟨wr.heap.size, 0, none⟩) cp4 1 [⟨1, 7, 0⟩] _ (by simp) S4.out SG.out).mono ?_
          rintro r10 w4 ⟨rfl, hq⟩
          have HF := Lib.hid (HF.out.trans ((hq.below _).mono HF.out.size))
          clear hq
          go_wp2
          go_ret
          exact ⟨rfl, HF.out⟩
        · have hn1 : (n : Int) > 0 := by omega
          have t1 : decide ((n : Int) > 0) = true := by simp; omega
          have HM0 := Lib.hid (show m ≠ 0 by have h1 := (HM.out hn0).1; have h2 := HT.out; omega)
          have hcd := CD.out
          rw [kLs_pos hn0] at hcd
          have CD0 := Lib.hid hcd
          clear hcd
          obtain ⟨b0, b1, b2, b3, b4, b5, b6, b7, b8, b9, b10⟩ := (BX.out.alloc (.cells #[.int .i64 1, .int .i64 7, .int .u64 0] 64)).cellsA
          have lc0 := fun Y => (cells5 (row_kept BL.out ((Below.refl wr.heap.size wr).alloc (Nat.le_refl _) Y))).1
          have lc2 := fun Y => (cells5 (row_kept BL.out ((Below.refl wr.heap.size wr).alloc (Nat.le_refl _) Y))).2.2.1
          simp only [cE] at lc0 lc2
          go_wp2_with fail
          clear lc0 lc2
          clear b0 b1 b2 b3 b4 b5 b6 b7 b8 b9 b10
          have HA := Lib.hid (show Below wr.heap.size wr ((wr.alloc (.cells #[.int .i64 1, .int .i64 7, .int .u64 0] 64)).alloc (.cells #[.int .i64 a, .int .i64 7, .int .u64 0, .int .i64 1, .int .i64 0, .int .u64 m] 64)) from ((Below.refl _ _).alloc (Nat.le_refl _) _).alloc (by simp) _)
          refine (end_k cur (kC 2 r s [e7, cE a m]) _ (NC.out.ok.kept HA.out) CD0.out (end_next r s a m HM0.out)).mono ?_
          rintro r9 w3 ⟨ad4, cp4, rfl, hs, hb⟩
          have S4 := Lib.hid hs
          have SG := Lib.hid ((sl_new' (g := wr.heap.size + 1) (w := wr.alloc (.cells #[.int .i64 1, .int .i64 7, .int .u64 0] 64)) (cs := gFlat [⟨a, 7, 0⟩, ⟨1, 0, m⟩]) (t := 64) (fr := (0, 0)) (by simp)).kept hb)
          have HF := Lib.hid (HB.out.trans ((HA.out.trans (hb.mono HA.out.size)).mono HB.out.size))
          clear hs hb
          simp only [List.length_nil, List.length_cons]
          go_wp2_with fail
          refine (gifts_true ad4 (some ⟨wr.heap.size + 1, 0, none⟩) cp4 2 [⟨a, 7, 0⟩, ⟨1, 0, m⟩] _ (by simp) S4.out SG.out).mono ?_
          rintro r10 w4 ⟨rfl, hq⟩
          have HF := Lib.hid (HF.out.trans ((hq.below _).mono HF.out.size))
          clear hq
          go_wp2
          go_ret
          exact ⟨rfl, HF.out⟩
      case pos =>
        have t0 : decide ((k : Int) < (X.es.length : Int)) = true := by simp; omega
        have HLT := Lib.hid hlt
        obtain ⟨xb, xo, hxa, y0, y1, y2, y3, y4⟩ := ent_at (HX.out.kept HB.out).sl k hlt
        have HE := Lib.hid ((HX.out.kept HB.out).ents _ (List.getElem_mem hlt))
        have hlt2 : (k : Int) < (X.es.length : Int) := by omega
        generalize X.es[k] = ee at *
        generalize hea : ee.acc = ea at *
        generalize hec : ee.coins = ec at *
        have HC := Lib.hid (show (Lit.int .u64 ec).wf = true by rw [← hec]; exact HE.out.cw)
        clear hea hec HE y1 y3 y4
        rw [hxa]
        go_wp2
        go_region_held3 (fun V => V.cell? ⟨xb, xo + k * 5, none⟩ = some (.int .i64 ea) ∧ V.cell? ⟨xb, xo + k * 5 + 2, none⟩ = some (.int .u64 ec)) (go_keep) (fail)
        obtain ⟨V2, hV2⟩ : ∃ V, V = (wr.alloc (.cells #[.int .i64 ea, .int .i64 0, .int .u64 ec, .int .u64 0, .slice none 0 0] 33)).drew := ⟨_, rfl⟩
        have HA := Lib.hid (show Below wr.heap.size wr V2 by rw [hV2]; exact ((Below.refl _ _).alloc (Nat.le_refl _) _).trans ((Qt.drewN _ 1).below _))
        have BE := Lib.hid (show BoxE V2 wr.heap.size (cE ea ec) by rw [hV2]; exact alloc_at rfl)
        rw [← hV2]
        clear hV2 y0 y2
        have BX2 := Lib.hid (BX.out.kept HA.out)
        obtain ⟨b0, b1, b2, b3, b4, b5, b6, b7, b8, b9, b10⟩ := BX2.out.cells
        obtain ⟨c0, c1, c2, c3, c4⟩ := cells5 BE.out
        simp only [cE] at c0 c1 c2 c3 c4
        go_wp2_with fail
        clear b0 b1 b2 b3 b4 b5 b6 b7 b8 b9 b10 c0 c1 c2 c3 c4
        refine (join_piece cur (kC 2 r s (kLs n a m)) (cE ea ec) (cE ea ec) V2 (NC.out.kept HA.out).ok (cE_ok V2 ea ec HC.out) CD.out rfl).mono ?_
        rintro r4 v3 ⟨d, ad, cap, rfl, hb, hN, hg, hd⟩
        have HN := Lib.hid hN
        have HD := Lib.hid hd
        have HS := Lib.hid (own_sl hg).2
        have HB3 := Lib.hid hb
        have BX3 := Lib.hid (BX2.out.kept hb)
        have BE3 := Lib.hid (row_kept BE.out hb)
        have BL3 := Lib.hid (row_kept (row_kept BL.out HA.out) hb)
        have HSN := Lib.hid (show v2.heap.size < V2.heap.size by have := HSZ.out; have := HA.out.size; omega)
        have BE2 := Lib.hid BE.out
        clear hN hd hg hb BX2 BE
        by_cases hj : (kC 2 r s (kLs n a m)).joinV' (cE ea ec) = 0
        case neg =>
          have cj : ((kC 2 r s (kLs n a m)).joinV' (cE ea ec) != 0) = true := by simpa using hj
          clear hj
          have HGL := Lib.hid (show ∀ i, joinGs (kC 2 r s (kLs n a m)) (cE ea ec) = i → True from fun _ _ => trivial)
          generalize (kC 2 r s (kLs n a m)).joinV' (cE ea ec) = jv at *
          go_wp2_with (go_at_call 13; (with_reducible refine (num_any _ _).mono ?_); rintro r6 y6 ⟨rfl, rfl⟩)
          have HAV := Lib.hid (show Below v3.heap.size v3 (v3.alloc (.cells #[.int .i64 d.num, .int .i64 d.kind, .int .i64 d.by', .int .i64 d.dl, .int .i64 d.to', .int .i64 d.want, .int .u64 d.price, .int .u64 d.reserve, .int .u64 d.step, .int .i64 d.of', .slice d.ea d.es.length d.ec] 25)) from (Below.refl _ _).alloc (Nat.le_refl _) _)
          have HBA := Lib.hid (HA.out.trans ((HB3.out.trans (HAV.out.mono HB3.out.size)).mono HA.out.size))
          go_roundw
          case rel => exact ⟨k + 1, n, cur, a, m, by omega, by omega, by go_num, rfl, HB.out.trans (HBA.out.mono HB.out.size), BX.out.kept HBA.out, NC.out.kept HBA.out, row_kept BL.out HBA.out, CD.out, HM.out⟩
          case measure => simp [intOf]; omega
        case pos =>
          obtain ⟨hjl, hju⟩ : 0 ≤ ec ∧ ec ≤ 18446744073709551615 := by obtain ⟨z, hz⟩ := u64_of_wf HC.out; rw [hz]; exact ⟨U64_lo z, U64_hi z⟩
          go_wp2_with fail
          obtain ⟨V4, hV4⟩ : ∃ V, V = v3.alloc (.cells #[.int .i64 d.num, .int .i64 d.kind, .int .i64 d.by', .int .i64 d.dl, .int .i64 d.to', .int .i64 d.want, .int .u64 d.price, .int .u64 d.reserve, .int .u64 d.step, .int .i64 d.of', .slice d.ea d.es.length d.ec] 25) := ⟨_, rfl⟩
          have HAV := Lib.hid (show Below v3.heap.size v3 V4 by rw [hV4]; exact (Below.refl _ _).alloc (Nat.le_refl _) _)
          have BD4 := Lib.hid (show Box V4 v3.heap.size d by rw [hV4]; exact alloc_at rfl)
          rw [← hV4]
          clear hV4
          have BX4 := Lib.hid (BX3.out.kept HAV.out)
          have BE4 := Lib.hid (row_kept BE3.out HAV.out)
          have BL4 := Lib.hid (row_kept BL3.out HAV.out)
          have N4 := Lib.hid (HN.out.kept HAV.out)
          have HS4 := Lib.hid (HS.out.kept HAV.out)
          have HB4 := Lib.hid (HB.out.trans ((HA.out.trans ((HB3.out.trans (HAV.out.mono HB3.out.size)).mono HA.out.size)).mono HB.out.size))
          have HORD := Lib.hid (show w.heap.size ≤ v1.heap.size ∧ v1.heap.size < v2.heap.size ∧ v2.heap.size < wr.heap.size ∧ wr.heap.size < V2.heap.size ∧ V2.heap.size ≤ v3.heap.size by
            have h1 := HSZ.out; have h2 := HB3.out.size; have h3 := HGV.out; have h4 := HG1.out; have h5 := lt_row BE2.out; omega)
          clear HAV BX3 BE3 BL3 HN HS HA HB3 BE2 BX HSN BL HB
          refine (num_any _ _).mono ?_
          rintro r6 y6 ⟨rfl, rfl⟩
          rcases Nat.eq_zero_or_pos n with hn0 | hn0
          · obtain rfl := hn0
            obtain ⟨hea1, hrm⟩ := joins_first r s ea ec hj
            obtain ⟨hD, hG⟩ := ds_first r s ea ec hj
            have hG2 : joinGs (kC 2 r s (kLs 0 a m)) (cE ea ec) = [] := hG
            have hS5 := HS4.out
            rw [hG2] at hS5 ⊢
            have HS5 := Lib.hid hS5
            clear HS4 hG2 hS5
            have HDD := Lib.hid (HD.out.trans hD)
            have HRG := Lib.hid (show r ≤ ec ∧ ec ≤ 18446744073709551615 from ⟨hrm, hju⟩)
            have HL := Lib.hid (show d.es.length = 2 by have := congrArg List.length (con_eq HDD.out).2.2.2.2.2.2.2.2; rw [List.length_map] at this; rw [this]; rfl)
            have c1 : (ea == 1) = false := by simpa using hea1
            have c2 : ((d.es.length : Int) != 2) = false := by rw [HL.out]; rfl
            have c3 : decide (ec < r) = false := by simp; omega
            clear hj hD hG HD HM hea1 hrm HL
            obtain ⟨e0, e1, e2, e3, e4⟩ := cells5 BE4.out
            simp only [cE] at e0 e1 e2 e3 e4
            simp only [List.length_nil]
            go_wp2_with fail
            clear e0 e1 e2 e3 e4
            refine (gifts_true ad none cap 0 [] _ (by simp) HS5.out (Sl.nil _ _)).mono ?_
            rintro r7 v5 ⟨rfl, hq⟩
            have HQ5 := Lib.hid (hq.below V4.heap.size)
            clear hq HS5
            have H5 := Lib.hid (HQ5.out)
            have BX5 := Lib.hid (BX4.out.kept H5.out)
            have BD5 := Lib.hid (BD4.out.kept H5.out)
            have BE5 := Lib.hid (row_kept BE4.out H5.out)
            have BL5 := Lib.hid (row_kept BL4.out H5.out)
            have N5 := Lib.hid (N4.out.kept H5.out)
            have HB5 := Lib.hid (HB4.out.trans (H5.out.mono HB4.out.size))
            clear H5 HQ5 HB4 BX4 BD4 BE4 BL4 N4
            obtain ⟨b0, b1, b2, b3, b4, b5, b6, b7, b8, b9, b10⟩ := BD5.out.cells
            go_wp2
            clear b0 b1 b2 b3 b4 b5 b6 b7 b8 b9 b10
            refine wp_region_flag 3 (RFl v5 v1.heap.size wr.heap.size v3.heap.size cur d (cE ea ec)) isStore (by kernel_rfl) (by kernel_rfl) (by kernel_rfl) (fun n => ⟨Only.of_below (below_drawn (Below.refl _ _) n), BD5.out, BE5.out, BX5.out⟩) ?_
            simp only [List.take_succ_cons, List.take_zero]
            refine wpFlag_cons (.agg #[.int .i64 d.num, .int .i64 d.kind, .int .i64 d.by', .int .i64 d.dl, .int .i64 d.to', .int .i64 d.want, .int .u64 d.price, .int .u64 d.reserve, .int .u64 d.step, .int .i64 d.of', .slice d.ea d.es.length d.ec]) rfl (fun b Wx hw => by cases b <;> exact inv_load_row 25 _ rfl v3.heap.size rfl 25 _ _ _ hw.2.1 Try.underlying25 rfl szC hw) ?_
            refine wpFlag_cons (.agg #[.int .i64 ea, .int .i64 0, .int .u64 ec, .int .u64 0, .slice none 0 0]) rfl (fun b Wx hw => by cases b <;> exact inv_load_row 33 _ rfl wr.heap.size rfl 33 _ _ _ hw.2.2.1 Try.underlying33 rfl szE hw) ?_
            simp only [Act.put, List.setIfInBounds_toArray, List.set_cons_zero, List.set_cons_succ]
            refine wpFlag_cons undef rfl (fun b Wx hw => by
              have hst : ∀ W, Put Wx v1.heap.size (.cells #[.int .i64 d.num, .int .i64 d.kind, .int .i64 d.by', .int .i64 d.dl, .int .i64 d.to', .int .i64 d.want, .int .u64 d.price, .int .u64 d.reserve, .int .u64 d.step, .int .i64 d.of', .slice d.ea d.es.length d.ec] 25) W → RFl v5 v1.heap.size wr.heap.size v3.heap.size cur d (cE ea ec) true W := fun W hp =>
                ⟨hw.1.trans hp.only (fun k hk => .inl hk), hp.row hw.2.1 (by have := HORD.out; omega), hp.row hw.2.2.1 (by have := HORD.out; omega), hp.at'⟩
              cases b
              · show InvRun Try.prog (RFl v5 v1.heap.size wr.heap.size v3.heap.size cur d (cE ea ec) true) _ _
                have hr : Wx.heap[v1.heap.size]? = some (.cells #[.int .i64 cur.num, .int .i64 cur.kind, .int .i64 cur.by', .int .i64 cur.dl, .int .i64 cur.to', .int .i64 cur.want, .int .u64 cur.price, .int .u64 cur.reserve, .int .u64 cur.step, .int .i64 cur.of', .slice cur.ea cur.es.length cur.ec] 25) := hw.2.2.2
                refine inv_store_lit 25 v1.heap.size 0 #[.int .i64 d.num, .int .i64 d.kind, .int .i64 d.by', .int .i64 d.dl, .int .i64 d.to', .int .i64 d.want, .int .u64 d.price, .int .u64 d.reserve, .int .u64 d.step, .int .i64 d.of', .slice d.ea d.es.length d.ec] (.agg #[.int .i64 d.num, .int .i64 d.kind, .int .i64 d.by', .int .i64 d.dl, .int .i64 d.to', .int .i64 d.want, .int .u64 d.price, .int .u64 d.reserve, .int .u64 d.step, .int .i64 d.of', .slice d.ea d.es.length d.ec]) hr szC (Nat.le_of_ble_eq_true rfl) rfl rfl ?_ ?_ hst
                · exact rfl
                · exact rfl
              · show InvRun Try.prog (RFl v5 v1.heap.size wr.heap.size v3.heap.size cur d (cE ea ec) true) _ _
                have hr : Wx.heap[v1.heap.size]? = some (.cells #[.int .i64 d.num, .int .i64 d.kind, .int .i64 d.by', .int .i64 d.dl, .int .i64 d.to', .int .i64 d.want, .int .u64 d.price, .int .u64 d.reserve, .int .u64 d.step, .int .i64 d.of', .slice d.ea d.es.length d.ec] 25) := hw.2.2.2
                refine inv_store_lit 25 v1.heap.size 0 #[.int .i64 d.num, .int .i64 d.kind, .int .i64 d.by', .int .i64 d.dl, .int .i64 d.to', .int .i64 d.want, .int .u64 d.price, .int .u64 d.reserve, .int .u64 d.step, .int .i64 d.of', .slice d.ea d.es.length d.ec] (.agg #[.int .i64 d.num, .int .i64 d.kind, .int .i64 d.by', .int .i64 d.dl, .int .i64 d.to', .int .i64 d.want, .int .u64 d.price, .int .u64 d.reserve, .int .u64 d.step, .int .i64 d.of', .slice d.ea d.es.length d.ec]) hr szC (Nat.le_of_ble_eq_true rfl) rfl rfl ?_ ?_ hst
                · exact rfl
                · exact rfl) ?_
            intro w6 hf
            obtain ⟨hon, hbd, hbe, hbx⟩ := hf
            have HB6 := Lib.hid (HB5.out.trans (hon.below (B := w.heap.size) HB5.out.size (fun k hk => by have := HORD.out; omega)))
            have BX6 := Lib.hid (show Box w6 v1.heap.size d from hbx)
            have BL6 := Lib.hid (hon.row BL5.out (by have := HORD.out; omega))
            have N6 := Lib.hid (NewC.only N5.out hon (fun k hk e => by have := HORD.out; omega))
            clear hon hbd hbe hbx N5 BL5 HB5 BX5 BD5 BE5
            simp only [Act.put, List.setIfInBounds_toArray, List.set_cons_zero, List.set_cons_succ, List.drop_succ_cons, List.drop_zero]
            refine wpList_store_lit 33 v2.heap.size 0 #[.int .i64 ea, .int .i64 0, .int .u64 ec, .int .u64 0, .slice none 0 0] (.agg #[.int .i64 ea, .int .i64 0, .int .u64 ec, .int .u64 0, .slice none 0 0]) BL6.out szE (Nat.le_of_ble_eq_true rfl) rfl rfl (by rfl) (by rfl) ?_
            intro w7 hp
            have HB7 := Lib.hid (hp.below (B := w.heap.size) HB6.out HB6.out.size (by have := HORD.out; omega))
            have BX7 := Lib.hid (show Box w7 v1.heap.size d from hp.row BX6.out (by have := HORD.out; omega))
            have BL7 := Lib.hid (show BoxE w7 v2.heap.size (cE ea ec) from hp.at')
            have N7 := Lib.hid ((NewC.only N6.out hp.only (fun k hk e => by have := HORD.out; omega)).base (B' := w.heap.size) (by have := HORD.out; omega))
            clear hp BX6 BL6 N6 HB6
            go_wp2
            go_roundw
            case rel => exact ⟨k + 1, 0 + 1, d, ea, ec, by omega, by omega, by go_num, by go_num, HB7.out, BX7.out, N7.out, BL7.out, by rw [kLs_pos (by omega)]; exact HDD.out, fun _ => HRG.out⟩
            case measure => simp [intOf]; omega
          · obtain ⟨hea1, hrm, hmm, hms⟩ := (show ea ≠ 1 ∧ r ≤ ec ∧ m ≤ ec ∧ s ≤ ec - m by rw [kLs_pos hn0] at hj; exact joins_next r s a m ea ec hj)
            obtain ⟨hm1, hm2⟩ := HM.out hn0
            have hm0 : m ≠ 0 := by have := HT.out; omega
            obtain ⟨hD, hG⟩ := (show joinDs (kC 2 r s (kLs n a m)) (cE ea ec) = (kC 2 r s [e7, cE ea ec]).d ∧ joinGs (kC 2 r s (kLs n a m)) (cE ea ec) = [⟨a, 0, m⟩] by rw [kLs_pos hn0] at hj ⊢; exact ds_next r s a m ea ec hj hm0)
            have hS5 := HS4.out
            rw [hG] at hS5 ⊢
            have HS5 := Lib.hid hS5
            have HDD := Lib.hid (HD.out.trans hD)
            have HRG := Lib.hid (show r ≤ ec ∧ ec ≤ 18446744073709551615 from ⟨hrm, hju⟩)
            have HL := Lib.hid (show d.es.length = 2 by have := congrArg List.length (con_eq HDD.out).2.2.2.2.2.2.2.2; rw [List.length_map] at this; rw [this]; rfl)
            have c1 : (ea == 1) = false := by simpa using hea1
            have c2 : ((d.es.length : Int) != 2) = false := by rw [HL.out]; rfl
            have c3 : IntKind.u64.wrap (m + s) = m + s := by rw [IntKind.wrap_u64]; omega
            have c4 : decide (m + s < s) = false := by simp; omega
            have c5 : decide (ec < m + s) = false := by simp; omega
            have t1 : decide ((n : Int) > 0) = true := by simp; omega
            have hn1 : (n : Int) > 0 := by omega
            have hn2 : (0 : Int) < (n : Int) := by omega
            clear hj hD hG HD HM hea1 hrm HL hmm hms hm1 hm2 hm0 HS4 hS5
            obtain ⟨e0, e1, e2, e3, e4⟩ := cells5 BL4.out
            have f0 := fun Y => (cells5 (row_kept BE4.out ((Below.refl V4.heap.size V4).alloc (Nat.le_refl _) Y))).1
            have f2 := fun Y => (cells5 (row_kept BE4.out ((Below.refl V4.heap.size V4).alloc (Nat.le_refl _) Y))).2.2.1
            have k2 := fun Y => (cells5 (row_kept BL4.out ((Below.refl V4.heap.size V4).alloc (Nat.le_refl _) Y))).2.2.1
            simp only [cE] at e0 e1 e2 e3 e4 f0 f2 k2
            simp only [List.length_nil, List.length_cons]
            go_wp2_with fail
            clear e0 e1 e2 e3 e4 f0 f2 k2
            have HAG := Lib.hid (show Below V4.heap.size V4 (V4.alloc (.cells #[.int .i64 a, .int .i64 0, .int .u64 m] 64)) from (Below.refl _ _).alloc (Nat.le_refl _) _)
            refine (gifts_true ad (some ⟨V4.heap.size, 0, none⟩) cap 1 [⟨a, 0, m⟩] _ (by simp) (HS5.out.kept HAG.out) (sl_new V4 (gFlat [⟨a, 0, m⟩]) 64 (0, 0))).mono ?_
            rintro r7 v5 ⟨rfl, hq⟩
            have HQ5 := Lib.hid (HAG.out.trans ((hq.below (V4.alloc (.cells #[.int .i64 a, .int .i64 0, .int .u64 m] 64)).heap.size).mono HAG.out.size))
            clear hq HS5 HAG
            have H5 := Lib.hid (HQ5.out)
            have BX5 := Lib.hid (BX4.out.kept H5.out)
            have BD5 := Lib.hid (BD4.out.kept H5.out)
            have BE5 := Lib.hid (row_kept BE4.out H5.out)
            have BL5 := Lib.hid (row_kept BL4.out H5.out)
            have N5 := Lib.hid (N4.out.kept H5.out)
            have HB5 := Lib.hid (HB4.out.trans (H5.out.mono HB4.out.size))
            clear H5 HQ5 HB4 BX4 BD4 BE4 BL4 N4
            obtain ⟨b0, b1, b2, b3, b4, b5, b6, b7, b8, b9, b10⟩ := BD5.out.cells
            go_wp2
            clear b0 b1 b2 b3 b4 b5 b6 b7 b8 b9 b10
            refine wp_region_flag 3 (RFl v5 v1.heap.size wr.heap.size v3.heap.size cur d (cE ea ec)) isStore (by kernel_rfl) (by kernel_rfl) (by kernel_rfl) (fun n => ⟨Only.of_below (below_drawn (Below.refl _ _) n), BD5.out, BE5.out, BX5.out⟩) ?_
            simp only [List.take_succ_cons, List.take_zero]
            refine wpFlag_cons (.agg #[.int .i64 d.num, .int .i64 d.kind, .int .i64 d.by', .int .i64 d.dl, .int .i64 d.to', .int .i64 d.want, .int .u64 d.price, .int .u64 d.reserve, .int .u64 d.step, .int .i64 d.of', .slice d.ea d.es.length d.ec]) rfl (fun b Wx hw => by cases b <;> exact inv_load_row 25 _ rfl v3.heap.size rfl 25 _ _ _ hw.2.1 Try.underlying25 rfl szC hw) ?_
            refine wpFlag_cons (.agg #[.int .i64 ea, .int .i64 0, .int .u64 ec, .int .u64 0, .slice none 0 0]) rfl (fun b Wx hw => by cases b <;> exact inv_load_row 33 _ rfl wr.heap.size rfl 33 _ _ _ hw.2.2.1 Try.underlying33 rfl szE hw) ?_
            simp only [Act.put, List.setIfInBounds_toArray, List.set_cons_zero, List.set_cons_succ]
            refine wpFlag_cons undef rfl (fun b Wx hw => by
              have hst : ∀ W, Put Wx v1.heap.size (.cells #[.int .i64 d.num, .int .i64 d.kind, .int .i64 d.by', .int .i64 d.dl, .int .i64 d.to', .int .i64 d.want, .int .u64 d.price, .int .u64 d.reserve, .int .u64 d.step, .int .i64 d.of', .slice d.ea d.es.length d.ec] 25) W → RFl v5 v1.heap.size wr.heap.size v3.heap.size cur d (cE ea ec) true W := fun W hp =>
                ⟨hw.1.trans hp.only (fun k hk => .inl hk), hp.row hw.2.1 (by have := HORD.out; omega), hp.row hw.2.2.1 (by have := HORD.out; omega), hp.at'⟩
              cases b
              · show InvRun Try.prog (RFl v5 v1.heap.size wr.heap.size v3.heap.size cur d (cE ea ec) true) _ _
                have hr : Wx.heap[v1.heap.size]? = some (.cells #[.int .i64 cur.num, .int .i64 cur.kind, .int .i64 cur.by', .int .i64 cur.dl, .int .i64 cur.to', .int .i64 cur.want, .int .u64 cur.price, .int .u64 cur.reserve, .int .u64 cur.step, .int .i64 cur.of', .slice cur.ea cur.es.length cur.ec] 25) := hw.2.2.2
                refine inv_store_lit 25 v1.heap.size 0 #[.int .i64 d.num, .int .i64 d.kind, .int .i64 d.by', .int .i64 d.dl, .int .i64 d.to', .int .i64 d.want, .int .u64 d.price, .int .u64 d.reserve, .int .u64 d.step, .int .i64 d.of', .slice d.ea d.es.length d.ec] (.agg #[.int .i64 d.num, .int .i64 d.kind, .int .i64 d.by', .int .i64 d.dl, .int .i64 d.to', .int .i64 d.want, .int .u64 d.price, .int .u64 d.reserve, .int .u64 d.step, .int .i64 d.of', .slice d.ea d.es.length d.ec]) hr szC (Nat.le_of_ble_eq_true rfl) rfl rfl ?_ ?_ hst
                · exact rfl
                · exact rfl
              · show InvRun Try.prog (RFl v5 v1.heap.size wr.heap.size v3.heap.size cur d (cE ea ec) true) _ _
                have hr : Wx.heap[v1.heap.size]? = some (.cells #[.int .i64 d.num, .int .i64 d.kind, .int .i64 d.by', .int .i64 d.dl, .int .i64 d.to', .int .i64 d.want, .int .u64 d.price, .int .u64 d.reserve, .int .u64 d.step, .int .i64 d.of', .slice d.ea d.es.length d.ec] 25) := hw.2.2.2
                refine inv_store_lit 25 v1.heap.size 0 #[.int .i64 d.num, .int .i64 d.kind, .int .i64 d.by', .int .i64 d.dl, .int .i64 d.to', .int .i64 d.want, .int .u64 d.price, .int .u64 d.reserve, .int .u64 d.step, .int .i64 d.of', .slice d.ea d.es.length d.ec] (.agg #[.int .i64 d.num, .int .i64 d.kind, .int .i64 d.by', .int .i64 d.dl, .int .i64 d.to', .int .i64 d.want, .int .u64 d.price, .int .u64 d.reserve, .int .u64 d.step, .int .i64 d.of', .slice d.ea d.es.length d.ec]) hr szC (Nat.le_of_ble_eq_true rfl) rfl rfl ?_ ?_ hst
                · exact rfl
                · exact rfl) ?_
            intro w6 hf
            obtain ⟨hon, hbd, hbe, hbx⟩ := hf
            have HB6 := Lib.hid (HB5.out.trans (hon.below (B := w.heap.size) HB5.out.size (fun k hk => by have := HORD.out; omega)))
            have BX6 := Lib.hid (show Box w6 v1.heap.size d from hbx)
            have BL6 := Lib.hid (hon.row BL5.out (by have := HORD.out; omega))
            have N6 := Lib.hid (NewC.only N5.out hon (fun k hk e => by have := HORD.out; omega))
            clear hon hbd hbe hbx N5 BL5 HB5 BX5 BD5 BE5
            simp only [Act.put, List.setIfInBounds_toArray, List.set_cons_zero, List.set_cons_succ, List.drop_succ_cons, List.drop_zero]
            refine wpList_store_lit 33 v2.heap.size 0 #[.int .i64 ea, .int .i64 0, .int .u64 ec, .int .u64 0, .slice none 0 0] (.agg #[.int .i64 ea, .int .i64 0, .int .u64 ec, .int .u64 0, .slice none 0 0]) BL6.out szE (Nat.le_of_ble_eq_true rfl) rfl rfl (by rfl) (by rfl) ?_
            intro w7 hp
            have HB7 := Lib.hid (hp.below (B := w.heap.size) HB6.out HB6.out.size (by have := HORD.out; omega))
            have BX7 := Lib.hid (show Box w7 v1.heap.size d from hp.row BX6.out (by have := HORD.out; omega))
            have BL7 := Lib.hid (show BoxE w7 v2.heap.size (cE ea ec) from hp.at')
            have N7 := Lib.hid ((NewC.only N6.out hp.only (fun k hk e => by have := HORD.out; omega)).base (B' := w.heap.size) (by have := HORD.out; omega))
            clear hp BX6 BL6 N6 HB6
            go_wp2
            go_roundw
            case rel => exact ⟨k + 1, n + 1, d, ea, ec, by omega, by omega, by go_num, by go_num, HB7.out, BX7.out, N7.out, BL7.out, by rw [kLs_pos (by omega)]; exact HDD.out, fun _ => HRG.out⟩
            case measure => simp [intOf]; omega
theorem walk (x0 x1 : BitVec 64) (X : Ens) (w : World) (hX : EnsOk w X) : Calls Try.prog 7 #[.int .u64 (U64 x0), .int .u64 (U64 x1), X.v] w fun e w' => e = .returned (.bool true) ∧ Below w.heap.size w w' :=
  walkI _ _ (U64_lo x0) (U64_hi x0) (U64_lo x1) (U64_hi x1) X w hX
theorem own : ownKnob Try.prog.godebug = none := by kernel_rfl
theorem laidOut : laidOutB Try.prog = true := by kernel_rfl
set_option maxRecDepth 100000 in
theorem lifted (os : Os) (started : os.Started) (H : Type) (enc : TypeId × Value → H) :
    ReturnsInHanded {} Try.checked os 7 .any (Rows.auctionRisesSpec.pre6 enc Try.prog Try.f7 Rows.auctionRisesRow.domain false) (Rows.auctionRisesSpec.post enc Try.prog Try.f7 false true false false) := by
  refine returnsInHanded_of_change_sized (C := Try.checked) own started (by kernel_rfl) Try.func7
    (ChangeSpec.witness6 (enc := enc) (C := Try.checked) false ⟨#[], #[.int .u64 0, .int .u64 0, .slice none 0 0], []⟩ 8 (by kernel_rfl) (by kernel_rfl) (by kernel_rfl) (by kernel_rfl)) ?_
  intro W base args ds gs before hval0 hW hcnd hsz0 _
  have hsz : (DataW.weightsEach Try.prog (Try.f7.params.toList ++ Rows.auctionRisesSpec.plain.varTypes Try.prog) (ds ++ gs)).all (· ≤ reachBytes) = true := hsz0
  clear hsz0
  have hval : ∀ (j : Nat) t v, Try.f7.params[j]? = some t → args[j]? = some v → Value.okWide Try.prog W .any base t v := hval0
  have hW' := hW
  obtain ⟨p, q, hA0, hV, rfl, hfz, hnd⟩ := hW
  have hA : DataW.TrodAll enc Try.prog W 0 (fun _ => true) true Try.f7.params.toList args.toList ds p := hA0
  rw [Try.params7] at hA hval hsz
  obtain ⟨v0, vs0, d0, ds0, p0, q0, hargs, rfl, rfl, h0, r0⟩ := trodAll_cons hA
  obtain ⟨v1, vs1, d1, ds1, p1, q1, rfl, rfl, rfl, h1, r1⟩ := trodAll_cons r0
  obtain ⟨v2, vs2, d2, ds2, p2, q2, rfl, rfl, rfl, h2, r2⟩ := trodAll_cons r1
  obtain ⟨rfl, rfl, rfl⟩ := trodAll_nil r2
  obtain rfl : args = #[v0, v1, v2] := by cases args; simp_all
  obtain ⟨rfl, rfl⟩ := trodVars_none hV
  obtain ⟨a0, rfl, rfl, rfl, w0⟩ := open_int Try.underlying22 (hval 0 22 v0 rfl rfl) h0
  obtain ⟨x0, rfl⟩ := u64_of_wf w0
  obtain ⟨a1, rfl, rfl, rfl, w1⟩ := open_int Try.underlying22 (hval 1 22 v1 rfl rfl) h1
  obtain ⟨x1, rfl⟩ := u64_of_wf w1
  have k2 := h2
  have lt2 : ∀ x ∈ p2, x.block < W.heap.size := by obtain ⟨m, hm⟩ := k2; exact DataW.trod_lt m _ _ _ hm
  obtain ⟨c2, rfl, n2⟩ := open_ens (hval 2 23 v2 rfl rfl) h2 hsz (j := 2) rfl rfl
  clear hA0 hval0
  refine (walk x0 x1 c2 W n2).mono fun e W' ⟨he, bel⟩ => ?_
  subst he
  exact ⟨_, rfl, _, _, _, [], _, [], hW', trodAll_mk1 (shut_bool Try.underlying4 _), (trodAll_cons_mk (shut_int Try.underlying22 w0) (trodAll_cons_mk (shut_int Try.underlying22 w1) (trodAll_cons_mk (Below.trod laidOut (by kernel_rfl) (of_decide_eq_true (by kernel_rfl)) k2 bel lt2) trodAll_mk0))), rfl, bel.frame _, fun h => by cases h⟩
theorem over : Rows.auctionRisesRow.holds Try.pinned (OpenSpec.ofChange Rows.auctionRisesSpec) :=
  OpenClaim.holds_of_wide 7 Try.f7 rfl rfl rfl rfl rfl rfl rfl ⟨rfl, rfl, rfl, rfl, rfl⟩ rfl rfl rfl rfl rfl (by kernel_rfl) Try.func7 (by kernel_rfl)
    (of_decide_eq_true (by kernel_rfl)) (by unfold Func.isWrapper; first | (rw [if_pos (by decide +kernel)]; kernel_rfl) | (rw [if_neg (by decide +kernel)]; exact ⟨rfl, rfl⟩))
    (fun os started H enc _ => lifted os started H enc)
theorem proved : Rows.AuctionRisesSaid := over
#print axioms proved
end Go.Proofs.Ytpejcndfplbikaa.lawAuctionRises
