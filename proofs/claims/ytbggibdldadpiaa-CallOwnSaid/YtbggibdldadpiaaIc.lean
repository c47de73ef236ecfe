/-
  Layer 19: the document's Clear and Strict.
-/
import Derived.Test.YtbggibdldadpiaaIb
import Derived.Test.YtbggibdldadpiaaHe
namespace Go.Proofs.Ytbggibdldadpiaa
open Go.RowKit Go.K
open Go.Stab (swp rot Srt Prm Out)
set_option linter.unusedVariables false
set_option linter.unusedSimpArgs false
/-- The two ranks, while an answer is made. -/
structure Rk (xs ys : List (BitVec 64)) (aa ba : Option Addr) (rs ga gb : Nat) (da db : Nat → Nat) (w V : World) : Prop where
  res : V.heap[rs]? = some (.cells #[.slice none 0 0, .slice none 0 0, .int .u64 0, .int .u64 0] 44)
  ra : Rw V ga xs.length da
  rb : Rw V gb ys.length db
  sa : Sl V aa (vQ xs)
  sb : Sl V ba (vQ ys)
  bel : Below w.heap.size w V
theorem Rk.kept {xs ys : List (BitVec 64)} {aa ba : Option Addr} {rs ga gb : Nat} {da db : Nat → Nat} {w V V' : World} (h : Rk xs ys aa ba rs ga gb da db w V) (hb : Below V.heap.size V V') : Rk xs ys aa ba rs ga gb da db w V' :=
  ⟨row_kept h.res hb, h.ra.kept hb, h.rb.kept hb, h.sa.kept hb, h.sb.kept hb, h.bel.trans (hb.mono h.bel.size)⟩
theorem RDealV.kept {n pay get B : Nat} {da db : Nat → Nat} {W W' : World} {v : Value} (h : RDealV n da db pay get B W v) (ho : Only (fun k => k < B) W W') : RDealV n da db pay get B W' v := by
  obtain ⟨a1, c1, a2, c2, h1, h2, h3, h4, h5⟩ := h
  exact ⟨a1, c1, a2, c2, h1, ho.sl h2 (fun y hy _ => by have := h4 y hy; omega), ho.sl h3 (fun y hy _ => by have := h5 y hy; omega), h4, h5⟩
theorem RDealV.base {n pay get B B' : Nat} {da db : Nat → Nat} {W : World} {v : Value} (h : RDealV n da db pay get B W v) (hb : B' ≤ B) : RDealV n da db pay get B' W v := by
  obtain ⟨a1, c1, a2, c2, h1, h2, h3, h4, h5⟩ := h
  exact ⟨a1, c1, a2, c2, h1, h2, h3, (fun x hx => by have := h4 x hx; omega), (fun x hx => by have := h5 x hx; omega)⟩
theorem RDealV.four {n pay get B : Nat} {da db : Nat → Nat} {W : World} {v : Value} (h : RDealV n da db pay get B W v) : ∃ x y p q, v = .agg #[x, y, p, q] ∧ x.cells = #[x] ∧ y.cells = #[y] ∧ p.cells = #[p] ∧ q.cells = #[q] := by
  obtain ⟨a1, c1, a2, c2, rfl, _⟩ := h
  exact ⟨_, _, _, _, rfl, rfl, rfl, rfl, rfl⟩
set_option maxRecDepth 100000 in
set_option maxHeartbeats 4000000 in
theorem rclear_any (xs ys : List (BitVec 64)) (da db : Nat → Nat) (k : Nat) (hza : RankZ true xs da) (hzb : RankZ false ys db) (hk : KV xs ys da db k) (aa ba : Option Addr) (ca cb : Nat) (w : World) (hna : xs.length ≤ 17592186043904) (hnb : ys.length ≤ 17592186043904) (ha : Sl w aa (vQ xs)) (hb : Sl w ba (vQ ys)) :
    Calls Try.prog 21 #[.slice aa xs.length ca, .slice ba ys.length cb] w fun r w' => ∃ v, r = .returned v ∧ RDealV k da db (priceV xs ys da db k) (priceV xs ys da db k) w.heap.size w' v ∧ Below w.heap.size w w' := by
  obtain ⟨w1, hw1⟩ : ∃ w1, w1 = w.alloc (.cells #[.slice none 0 0, .slice none 0 0, .int .u64 0, .int .u64 0] 44) := ⟨_, rfl⟩
  have hb1 : Below w.heap.size w w1 := by rw [hw1]; exact (Below.refl _ _).alloc (Nat.le_refl _) _
  have hz1 : w1.heap[w.heap.size]? = some (.cells #[.slice none 0 0, .slice none 0 0, .int .u64 0, .int .u64 0] 44) := by rw [hw1]; exact alloc_at rfl
  have HKK := Lib.hid (rk_any xs ys da db k aa ba ca cb w1 hza hzb hk hna hnb (ha.kept hb1) (hb.kept hb1))
  have HRA := Lib.hid (show ∀ V, Below w1.heap.size w1 V → Calls Try.prog 44 #[.slice aa xs.length ca, .bool false] V fun r w' => ∃ (g : Nat), r = .returned (.slice (some ⟨g, 0, none⟩) xs.length xs.length) ∧ V.heap.size ≤ g ∧ Rw w' g xs.length da ∧ Below V.heap.size V w' from fun V h => rrank_any true xs da hza aa ca V hna ((ha.kept hb1).kept h))
  have HRB := Lib.hid (show ∀ V, Below w1.heap.size w1 V → Calls Try.prog 44 #[.slice ba ys.length cb, .bool true] V fun r w' => ∃ (g : Nat), r = .returned (.slice (some ⟨g, 0, none⟩) ys.length ys.length) ∧ V.heap.size ≤ g ∧ Rw w' g ys.length db ∧ Below V.heap.size V w' from fun V h => rrank_any false ys db hzb ba cb V hnb ((hb.kept hb1).kept h))
  have HLA := Lib.hid ha.lt
  have HLB := Lib.hid hb.lt
  have HA := Lib.hid (ha.kept hb1)
  have HB := Lib.hid (hb.kept hb1)
  have HW1 := Lib.hid hw1
  have HB1 := Lib.hid hb1
  have HZ1 := Lib.hid hz1
  have HZA := Lib.hid hza
  have HZB := Lib.hid hzb
  have HK := Lib.hid hk
  clear ha hb hb1 hz1 hw1 hza hzb hk
  go_enter Try.func21, Try.ntmps21
  go_upto_region 1 with fail
  rw [← HW1.out]
  go_upto_region 2 with (go_at_call 43; (with_reducible refine HKK.out.mono ?_); rintro e w2 ⟨rfl, hb2⟩)
  have HB2 := Lib.hid hb2
  have HZ2 := Lib.hid (row_kept HZ1.out hb2)
  clear hb2 HKK
  by_cases h0 : k = 0
  · have t0 : ((k : Int) == 0) = true := by rw [beq_iff_eq]; omega
    have HAN := Lib.hid (show ∀ W, RDealV k da db (priceV xs ys da db k) (priceV xs ys da db k) w.heap.size W (.agg (dlA none 0 none 0 0 0 0)) from fun W => by
      unfold priceV; rw [if_pos h0, h0]
      exact ⟨none, 0, none, 0, rfl, (fun h => absurd rfl h), (fun h => absurd rfl h), (fun x h => by cases h), (fun x h => by cases h)⟩)
    clear h0
    go_wp2_with ((with_reducible refine at_store_op ?_); refine wpList_store_lit 44 w.heap.size 0 (dlA none 0 none 0 0 0 0) (.agg (dlA none 0 none 0 0 0 0)) HZ2.out sz44 (Nat.le_of_ble_eq_true rfl) rfl rfl ?_ ?_ ?_; exact rfl; exact rfl; intro w4 hp4; have HP := Lib.hid hp4; clear hp4)
    have hbw : Below w.heap.size w w2 := HB1.out.trans (HB2.out.mono HB1.out.size)
    exact bodyPost_ret (results_row_one Try.results21 _ _ w.heap.size 44 _ _ _ rfl HP.out.at' Try.underlying44 rfl sz44) rfl ⟨_, rfl, HAN.out _, HP.out.below hbw hbw.size (Nat.le_refl _)⟩
  · have t0 : ((k : Int) == 0) = false := by rw [beq_eq_false_iff_ne]; omega
    obtain ⟨km, hkm⟩ : ∃ km, km = k - 1 := ⟨_, rfl⟩
    have w1' : IntKind.i64.wrap ((k : Int) - 1) = (km : Int) := by rw [IntKind.wrap_i64]; have := HK.out.1; omega
    have HKM := Lib.hid (show km = k - 1 ∧ 0 < k ∧ km < xs.length ∧ km < ys.length by have := HK.out.1; have := HK.out.2.1; omega)
    go_upto_region 6 with (first
      | (go_at_call 44; (with_reducible refine (HRA.out _ HB2.out).mono ?_); rintro e w3 ⟨ga, rfl, hga, hra, hb3⟩; have HB3 := Lib.hid (HB2.out.trans (hb3.mono HB2.out.size)); have HR3 := Lib.hid hra; have HG3 := Lib.hid (show w.heap.size < ga by have h1 := lt_row HZ1.out; have h2 := HB2.out.size; omega); clear hga hra hb3)
      | (go_at_call 44; (with_reducible refine (HRB.out _ HB3.out).mono ?_); rintro e w4 ⟨gb, rfl, hgb, hrb, hb4⟩; have HB4 := Lib.hid (HB3.out.trans (hb4.mono HB3.out.size)); have HR4 := Lib.hid (show Rw w4 ga xs.length da ∧ Rw w4 gb ys.length db from ⟨HR3.out.kept hb4, hrb⟩); have HG4 := Lib.hid (show w.heap.size < gb by have h1 := lt_row HZ1.out; have h2 := HB3.out.size; omega); clear hgb hrb hb4))
    have HS := Lib.hid (show Rk xs ys aa ba w.heap.size ga gb da db w w4 from ⟨row_kept HZ1.out HB4.out, HR4.out.1, HR4.out.2, HA.out.kept HB4.out, HB.out.kept HB4.out, HB1.out.trans (HB4.out.mono HB1.out.size)⟩)
    clear HB3 HR3 HR4 HB2 HZ2 HRA HRB HA HB h0 hkm
    have la : km < xs.length := HKM.out.2.2.1
    have lb : km < ys.length := HKM.out.2.2.2
    obtain ⟨b1, o1, hba, y1⟩ := vQ_at HS.out.sa (da km) (rankz_lt HZA.out la)
    obtain ⟨b2, o2, hbb, y2⟩ := vQ_at HS.out.sb (db km) (rankz_lt HZB.out lb)
    have y3 := HS.out.ra.cell km la
    have y4 := HS.out.rb.cell km lb
    have l1 : (km : Int) < (xs.length : Int) := by omega
    have l2 : (km : Int) < (ys.length : Int) := by omega
    have l3 : (da km : Int) < (xs.length : Int) := by have := rankz_lt HZA.out la; omega
    have l4 : (db km : Int) < (ys.length : Int) := by have := rankz_lt HZB.out lb; omega
    subst hba hbb
    have ne1 : w.heap.size ≠ b1 := by have := HLA.out _ rfl (fun e => by have h := congrArg List.length e; rw [vQ_length] at h; rw [h] at la; cases la); exact Nat.ne_of_gt this
    have ne2 : w.heap.size ≠ b2 := by have := HLB.out _ rfl (fun e => by have h := congrArg List.length e; rw [vQ_length] at h; rw [h] at lb; cases lb); exact Nat.ne_of_gt this
    have ne3 : w.heap.size ≠ ga := by have := HG3.out; omega
    have ne4 : w.heap.size ≠ gb := by have := HG4.out; omega
    have HVA := Lib.hid (show lq xs (da (k - 1)) = lq xs (da km) ∧ lq ys (db (k - 1)) = lq ys (db km) by rw [HKM.out.1]; exact ⟨rfl, rfl⟩)
    have hlh := low_high HZA.out HZB.out HK.out HKM.out.2.1
    have HLH := Lib.hid hlh
    have HHI := Lib.hid (show highV xs ys da db k < 18446744073709551616 by unfold highV; have h1 := lq_lt ys (db (k - 1)); split <;> omega)
    have HMI := Lib.hid (fun W => rmiddle_any (lowV xs ys da db k) (highV xs ys da db k) W (by have := HLH.out; have := HHI.out; omega) HHI.out)
    have HPR := Lib.hid (show midV (lowV xs ys da db k) (highV xs ys da db k) = priceV xs ys da db k by
      have := HLH.out
      unfold midV priceV; rw [if_neg (by have := HKM.out.2.1; omega), Nat.min_eq_left this, Nat.max_eq_right this])
    rw [HPR.out] at HMI
    have HFI := Lib.hid (rfirst_any xs ys k (priceV xs ys da db k) (priceV xs ys da db k) da db HZA.out HZB.out (some ⟨b1, o1, none⟩) (some ⟨b2, o2, none⟩) ca cb w4 HKM.out.2.1 HK.out.1 HK.out.2.1 hna hnb HS.out.sa HS.out.sb)
    obtain ⟨pr, hpr⟩ : ∃ pr, pr = priceV xs ys da db k := ⟨_, rfl⟩
    rw [← hpr] at HMI HFI
    have HCL := Lib.hid (show ∀ W v, RDealV k da db pr pr w.heap.size W v → RDealV k da db (priceV xs ys da db k) (priceV xs ys da db k) w.heap.size W v from fun W v h => by rw [← hpr]; exact h)
    clear hlh HPR la lb hpr
    by_cases cb1 : k < ys.length
    · have scb1 : decide ((k : Int) < (ys.length : Int)) = true := decide_eq_true (by omega)
      have scb1n : decide (k < ys.length) = true := decide_eq_true cb1
      have y5 := HS.out.rb.cell k cb1
      obtain ⟨b3, o3, he3, y6⟩ := vQ_at HS.out.sb (db k) (rankz_lt HZB.out cb1)
      have l5 : (k : Int) < (ys.length : Int) := by omega
      have l6 : (db k : Int) < (ys.length : Int) := by have := rankz_lt HZB.out cb1; omega
      injection he3 with he3
      injection he3 with e1 e2 e3
      rw [← e1, ← e2] at y6
      clear e1 e2 e3
      by_cases cb2 : lq xs (da km) < lq ys (db k)
      · have scb2 : decide ((lq xs (da km) : Int) < (lq ys (db k) : Int)) = true := decide_eq_true (by omega)
        have scb2n : decide (lq xs (da km) < lq ys (db k)) = true := decide_eq_true cb2
        by_cases ca1 : k < xs.length
        · have sca1 : decide ((k : Int) < (xs.length : Int)) = true := decide_eq_true (by omega)
          have sca1n : decide (k < xs.length) = true := decide_eq_true ca1
          have y7 := HS.out.ra.cell k ca1
          obtain ⟨b4, o4, he4, y8⟩ := vQ_at HS.out.sa (da k) (rankz_lt HZA.out ca1)
          have l7 : (k : Int) < (xs.length : Int) := by omega
          have l8 : (da k : Int) < (xs.length : Int) := by have := rankz_lt HZA.out ca1; omega
          injection he4 with he4
          injection he4 with e1 e2 e3
          rw [← e1, ← e2] at y8
          clear e1 e2 e3
          by_cases ca2 : lq xs (da k) < lq ys (db km)
          · have sca2 : decide ((lq xs (da k) : Int) < (lq ys (db km) : Int)) = true := decide_eq_true (by omega)
            have sca2n : decide (lq xs (da k) < lq ys (db km)) = true := decide_eq_true ca2
            have HLO := Lib.hid (show lowV xs ys da db k = lq ys (db k) by unfold lowV; rw [if_pos cb1, HVA.out.1]; omega)
            have HHL := Lib.hid (show highV xs ys da db k = lq xs (da k) by unfold highV; rw [if_pos ca1, HVA.out.2]; omega)
            rw [HLO.out, HHL.out] at HMI
            clear HLO HHL HLH HHI HVA
            clear cb1 ca1 cb2 ca2
            go_wp2_with (first
              | (go_at_call 45; (with_reducible refine (HMI.out _).mono ?_); rintro e w9 ⟨rfl, rfl⟩)
              | (go_at_call 46; (with_reducible refine HFI.out.mono ?_); rintro e w5 ⟨v5, rfl, hd5, hb5⟩; have HD5 := Lib.hid hd5; have HB5 := Lib.hid (show Below w.heap.size w w5 from HS.out.bel.trans (hb5.mono HS.out.bel.size)); have HR5 := Lib.hid (row_kept HS.out.res hb5); obtain ⟨a1, c1, a2, c2, rfl, _⟩ := hd5; clear hb5)
              | ((with_reducible refine at_store_op ?_); refine wpList_store_lit 44 w.heap.size 0 (dlA a1 c1 a2 c2 k pr pr) (.agg (dlA a1 c1 a2 c2 k pr pr)) HR5.out sz44 (Nat.le_of_ble_eq_true rfl) rfl rfl ?_ ?_ ?_; exact rfl; exact rfl; intro w6 hp6; have HP := Lib.hid hp6; clear hp6))
            exact bodyPost_ret (results_row_one Try.results21 _ _ w.heap.size 44 _ _ _ rfl HP.out.at' Try.underlying44 rfl sz44) rfl ⟨_, rfl, HCL.out _ _ ((HD5.out.kept (HP.out.only.mono (fun k hk => by have := lt_row HS.out.res; omega))).base HS.out.bel.size), HP.out.below HB5.out HB5.out.size (Nat.le_refl _)⟩
          · have sca2 : decide ((lq xs (da k) : Int) < (lq ys (db km) : Int)) = false := decide_eq_false (by omega)
            have sca2n : decide (lq xs (da k) < lq ys (db km)) = false := decide_eq_false ca2
            have HLO := Lib.hid (show lowV xs ys da db k = lq ys (db k) by unfold lowV; rw [if_pos cb1, HVA.out.1]; omega)
            have HHL := Lib.hid (show highV xs ys da db k = lq ys (db km) by unfold highV; rw [if_pos ca1, HVA.out.2]; omega)
            rw [HLO.out, HHL.out] at HMI
            clear HLO HHL HLH HHI HVA
            clear cb1 ca1 cb2 ca2
            go_wp2_with (first
              | (go_at_call 45; (with_reducible refine (HMI.out _).mono ?_); rintro e w9 ⟨rfl, rfl⟩)
              | (go_at_call 46; (with_reducible refine HFI.out.mono ?_); rintro e w5 ⟨v5, rfl, hd5, hb5⟩; have HD5 := Lib.hid hd5; have HB5 := Lib.hid (show Below w.heap.size w w5 from HS.out.bel.trans (hb5.mono HS.out.bel.size)); have HR5 := Lib.hid (row_kept HS.out.res hb5); obtain ⟨a1, c1, a2, c2, rfl, _⟩ := hd5; clear hb5)
              | ((with_reducible refine at_store_op ?_); refine wpList_store_lit 44 w.heap.size 0 (dlA a1 c1 a2 c2 k pr pr) (.agg (dlA a1 c1 a2 c2 k pr pr)) HR5.out sz44 (Nat.le_of_ble_eq_true rfl) rfl rfl ?_ ?_ ?_; exact rfl; exact rfl; intro w6 hp6; have HP := Lib.hid hp6; clear hp6))
            exact bodyPost_ret (results_row_one Try.results21 _ _ w.heap.size 44 _ _ _ rfl HP.out.at' Try.underlying44 rfl sz44) rfl ⟨_, rfl, HCL.out _ _ ((HD5.out.kept (HP.out.only.mono (fun k hk => by have := lt_row HS.out.res; omega))).base HS.out.bel.size), HP.out.below HB5.out HB5.out.size (Nat.le_refl _)⟩
        · have sca1 : decide ((k : Int) < (xs.length : Int)) = false := decide_eq_false (by omega)
          have sca1n : decide (k < xs.length) = false := decide_eq_false ca1
          have HLO := Lib.hid (show lowV xs ys da db k = lq ys (db k) by unfold lowV; rw [if_pos cb1, HVA.out.1]; omega)
          have HHL := Lib.hid (show highV xs ys da db k = lq ys (db km) by unfold highV; rw [if_neg ca1, HVA.out.2])
          rw [HLO.out, HHL.out] at HMI
          clear HLO HHL HLH HHI HVA
          clear cb1 ca1 cb2
          go_wp2_with (first
            | (go_at_call 45; (with_reducible refine (HMI.out _).mono ?_); rintro e w9 ⟨rfl, rfl⟩)
            | (go_at_call 46; (with_reducible refine HFI.out.mono ?_); rintro e w5 ⟨v5, rfl, hd5, hb5⟩; have HD5 := Lib.hid hd5; have HB5 := Lib.hid (show Below w.heap.size w w5 from HS.out.bel.trans (hb5.mono HS.out.bel.size)); have HR5 := Lib.hid (row_kept HS.out.res hb5); obtain ⟨a1, c1, a2, c2, rfl, _⟩ := hd5; clear hb5)
            | ((with_reducible refine at_store_op ?_); refine wpList_store_lit 44 w.heap.size 0 (dlA a1 c1 a2 c2 k pr pr) (.agg (dlA a1 c1 a2 c2 k pr pr)) HR5.out sz44 (Nat.le_of_ble_eq_true rfl) rfl rfl ?_ ?_ ?_; exact rfl; exact rfl; intro w6 hp6; have HP := Lib.hid hp6; clear hp6))
          exact bodyPost_ret (results_row_one Try.results21 _ _ w.heap.size 44 _ _ _ rfl HP.out.at' Try.underlying44 rfl sz44) rfl ⟨_, rfl, HCL.out _ _ ((HD5.out.kept (HP.out.only.mono (fun k hk => by have := lt_row HS.out.res; omega))).base HS.out.bel.size), HP.out.below HB5.out HB5.out.size (Nat.le_refl _)⟩
      · have scb2 : decide ((lq xs (da km) : Int) < (lq ys (db k) : Int)) = false := decide_eq_false (by omega)
        have scb2n : decide (lq xs (da km) < lq ys (db k)) = false := decide_eq_false cb2
        by_cases ca1 : k < xs.length
        · have sca1 : decide ((k : Int) < (xs.length : Int)) = true := decide_eq_true (by omega)
          have sca1n : decide (k < xs.length) = true := decide_eq_true ca1
          have y7 := HS.out.ra.cell k ca1
          obtain ⟨b4, o4, he4, y8⟩ := vQ_at HS.out.sa (da k) (rankz_lt HZA.out ca1)
          have l7 : (k : Int) < (xs.length : Int) := by omega
          have l8 : (da k : Int) < (xs.length : Int) := by have := rankz_lt HZA.out ca1; omega
          injection he4 with he4
          injection he4 with e1 e2 e3
          rw [← e1, ← e2] at y8
          clear e1 e2 e3
          by_cases ca2 : lq xs (da k) < lq ys (db km)
          · have sca2 : decide ((lq xs (da k) : Int) < (lq ys (db km) : Int)) = true := decide_eq_true (by omega)
            have sca2n : decide (lq xs (da k) < lq ys (db km)) = true := decide_eq_true ca2
            have HLO := Lib.hid (show lowV xs ys da db k = lq xs (da km) by unfold lowV; rw [if_pos cb1, HVA.out.1]; omega)
            have HHL := Lib.hid (show highV xs ys da db k = lq xs (da k) by unfold highV; rw [if_pos ca1, HVA.out.2]; omega)
            rw [HLO.out, HHL.out] at HMI
            clear HLO HHL HLH HHI HVA
            clear cb1 ca1 cb2 ca2
            go_wp2_with (first
              | (go_at_call 45; (with_reducible refine (HMI.out _).mono ?_); rintro e w9 ⟨rfl, rfl⟩)
              | (go_at_call 46; (with_reducible refine HFI.out.mono ?_); rintro e w5 ⟨v5, rfl, hd5, hb5⟩; have HD5 := Lib.hid hd5; have HB5 := Lib.hid (show Below w.heap.size w w5 from HS.out.bel.trans (hb5.mono HS.out.bel.size)); have HR5 := Lib.hid (row_kept HS.out.res hb5); obtain ⟨a1, c1, a2, c2, rfl, _⟩ := hd5; clear hb5)
              | ((with_reducible refine at_store_op ?_); refine wpList_store_lit 44 w.heap.size 0 (dlA a1 c1 a2 c2 k pr pr) (.agg (dlA a1 c1 a2 c2 k pr pr)) HR5.out sz44 (Nat.le_of_ble_eq_true rfl) rfl rfl ?_ ?_ ?_; exact rfl; exact rfl; intro w6 hp6; have HP := Lib.hid hp6; clear hp6))
            exact bodyPost_ret (results_row_one Try.results21 _ _ w.heap.size 44 _ _ _ rfl HP.out.at' Try.underlying44 rfl sz44) rfl ⟨_, rfl, HCL.out _ _ ((HD5.out.kept (HP.out.only.mono (fun k hk => by have := lt_row HS.out.res; omega))).base HS.out.bel.size), HP.out.below HB5.out HB5.out.size (Nat.le_refl _)⟩
          · have sca2 : decide ((lq xs (da k) : Int) < (lq ys (db km) : Int)) = false := decide_eq_false (by omega)
            have sca2n : decide (lq xs (da k) < lq ys (db km)) = false := decide_eq_false ca2
            have HLO := Lib.hid (show lowV xs ys da db k = lq xs (da km) by unfold lowV; rw [if_pos cb1, HVA.out.1]; omega)
            have HHL := Lib.hid (show highV xs ys da db k = lq ys (db km) by unfold highV; rw [if_pos ca1, HVA.out.2]; omega)
            rw [HLO.out, HHL.out] at HMI
            clear HLO HHL HLH HHI HVA
            clear cb1 ca1 cb2 ca2
            go_wp2_with (first
              | (go_at_call 45; (with_reducible refine (HMI.out _).mono ?_); rintro e w9 ⟨rfl, rfl⟩)
              | (go_at_call 46; (with_reducible refine HFI.out.mono ?_); rintro e w5 ⟨v5, rfl, hd5, hb5⟩; have HD5 := Lib.hid hd5; have HB5 := Lib.hid (show Below w.heap.size w w5 from HS.out.bel.trans (hb5.mono HS.out.bel.size)); have HR5 := Lib.hid (row_kept HS.out.res hb5); obtain ⟨a1, c1, a2, c2, rfl, _⟩ := hd5; clear hb5)
              | ((with_reducible refine at_store_op ?_); refine wpList_store_lit 44 w.heap.size 0 (dlA a1 c1 a2 c2 k pr pr) (.agg (dlA a1 c1 a2 c2 k pr pr)) HR5.out sz44 (Nat.le_of_ble_eq_true rfl) rfl rfl ?_ ?_ ?_; exact rfl; exact rfl; intro w6 hp6; have HP := Lib.hid hp6; clear hp6))
            exact bodyPost_ret (results_row_one Try.results21 _ _ w.heap.size 44 _ _ _ rfl HP.out.at' Try.underlying44 rfl sz44) rfl ⟨_, rfl, HCL.out _ _ ((HD5.out.kept (HP.out.only.mono (fun k hk => by have := lt_row HS.out.res; omega))).base HS.out.bel.size), HP.out.below HB5.out HB5.out.size (Nat.le_refl _)⟩
        · have sca1 : decide ((k : Int) < (xs.length : Int)) = false := decide_eq_false (by omega)
          have sca1n : decide (k < xs.length) = false := decide_eq_false ca1
          have HLO := Lib.hid (show lowV xs ys da db k = lq xs (da km) by unfold lowV; rw [if_pos cb1, HVA.out.1]; omega)
          have HHL := Lib.hid (show highV xs ys da db k = lq ys (db km) by unfold highV; rw [if_neg ca1, HVA.out.2])
          rw [HLO.out, HHL.out] at HMI
          clear HLO HHL HLH HHI HVA
          clear cb1 ca1 cb2
          go_wp2_with (first
            | (go_at_call 45; (with_reducible refine (HMI.out _).mono ?_); rintro e w9 ⟨rfl, rfl⟩)
            | (go_at_call 46; (with_reducible refine HFI.out.mono ?_); rintro e w5 ⟨v5, rfl, hd5, hb5⟩; have HD5 := Lib.hid hd5; have HB5 := Lib.hid (show Below w.heap.size w w5 from HS.out.bel.trans (hb5.mono HS.out.bel.size)); have HR5 := Lib.hid (row_kept HS.out.res hb5); obtain ⟨a1, c1, a2, c2, rfl, _⟩ := hd5; clear hb5)
            | ((with_reducible refine at_store_op ?_); refine wpList_store_lit 44 w.heap.size 0 (dlA a1 c1 a2 c2 k pr pr) (.agg (dlA a1 c1 a2 c2 k pr pr)) HR5.out sz44 (Nat.le_of_ble_eq_true rfl) rfl rfl ?_ ?_ ?_; exact rfl; exact rfl; intro w6 hp6; have HP := Lib.hid hp6; clear hp6))
          exact bodyPost_ret (results_row_one Try.results21 _ _ w.heap.size 44 _ _ _ rfl HP.out.at' Try.underlying44 rfl sz44) rfl ⟨_, rfl, HCL.out _ _ ((HD5.out.kept (HP.out.only.mono (fun k hk => by have := lt_row HS.out.res; omega))).base HS.out.bel.size), HP.out.below HB5.out HB5.out.size (Nat.le_refl _)⟩
    · have scb1 : decide ((k : Int) < (ys.length : Int)) = false := decide_eq_false (by omega)
      have scb1n : decide (k < ys.length) = false := decide_eq_false cb1
      by_cases ca1 : k < xs.length
      · have sca1 : decide ((k : Int) < (xs.length : Int)) = true := decide_eq_true (by omega)
        have sca1n : decide (k < xs.length) = true := decide_eq_true ca1
        have y7 := HS.out.ra.cell k ca1
        obtain ⟨b4, o4, he4, y8⟩ := vQ_at HS.out.sa (da k) (rankz_lt HZA.out ca1)
        have l7 : (k : Int) < (xs.length : Int) := by omega
        have l8 : (da k : Int) < (xs.length : Int) := by have := rankz_lt HZA.out ca1; omega
        injection he4 with he4
        injection he4 with e1 e2 e3
        rw [← e1, ← e2] at y8
        clear e1 e2 e3
        by_cases ca2 : lq xs (da k) < lq ys (db km)
        · have sca2 : decide ((lq xs (da k) : Int) < (lq ys (db km) : Int)) = true := decide_eq_true (by omega)
          have sca2n : decide (lq xs (da k) < lq ys (db km)) = true := decide_eq_true ca2
          have HLO := Lib.hid (show lowV xs ys da db k = lq xs (da km) by unfold lowV; rw [if_neg cb1, HVA.out.1])
          have HHL := Lib.hid (show highV xs ys da db k = lq xs (da k) by unfold highV; rw [if_pos ca1, HVA.out.2]; omega)
          rw [HLO.out, HHL.out] at HMI
          clear HLO HHL HLH HHI HVA
          clear cb1 ca1 ca2
          go_wp2_with (first
            | (go_at_call 45; (with_reducible refine (HMI.out _).mono ?_); rintro e w9 ⟨rfl, rfl⟩)
            | (go_at_call 46; (with_reducible refine HFI.out.mono ?_); rintro e w5 ⟨v5, rfl, hd5, hb5⟩; have HD5 := Lib.hid hd5; have HB5 := Lib.hid (show Below w.heap.size w w5 from HS.out.bel.trans (hb5.mono HS.out.bel.size)); have HR5 := Lib.hid (row_kept HS.out.res hb5); obtain ⟨a1, c1, a2, c2, rfl, _⟩ := hd5; clear hb5)
            | ((with_reducible refine at_store_op ?_); refine wpList_store_lit 44 w.heap.size 0 (dlA a1 c1 a2 c2 k pr pr) (.agg (dlA a1 c1 a2 c2 k pr pr)) HR5.out sz44 (Nat.le_of_ble_eq_true rfl) rfl rfl ?_ ?_ ?_; exact rfl; exact rfl; intro w6 hp6; have HP := Lib.hid hp6; clear hp6))
          exact bodyPost_ret (results_row_one Try.results21 _ _ w.heap.size 44 _ _ _ rfl HP.out.at' Try.underlying44 rfl sz44) rfl ⟨_, rfl, HCL.out _ _ ((HD5.out.kept (HP.out.only.mono (fun k hk => by have := lt_row HS.out.res; omega))).base HS.out.bel.size), HP.out.below HB5.out HB5.out.size (Nat.le_refl _)⟩
        · have sca2 : decide ((lq xs (da k) : Int) < (lq ys (db km) : Int)) = false := decide_eq_false (by omega)
          have sca2n : decide (lq xs (da k) < lq ys (db km)) = false := decide_eq_false ca2
          have HLO := Lib.hid (show lowV xs ys da db k = lq xs (da km) by unfold lowV; rw [if_neg cb1, HVA.out.1])
          have HHL := Lib.hid (show highV xs ys da db k = lq ys (db km) by unfold highV; rw [if_pos ca1, HVA.out.2]; omega)
          rw [HLO.out, HHL.out] at HMI
          clear HLO HHL HLH HHI HVA
          clear cb1 ca1 ca2
          go_wp2_with (first
            | (go_at_call 45; (with_reducible refine (HMI.out _).mono ?_); rintro e w9 ⟨rfl, rfl⟩)
            | (go_at_call 46; (with_reducible refine HFI.out.mono ?_); rintro e w5 ⟨v5, rfl, hd5, hb5⟩; have HD5 := Lib.hid hd5; have HB5 := Lib.hid (show Below w.heap.size w w5 from HS.out.bel.trans (hb5.mono HS.out.bel.size)); have HR5 := Lib.hid (row_kept HS.out.res hb5); obtain ⟨a1, c1, a2, c2, rfl, _⟩ := hd5; clear hb5)
            | ((with_reducible refine at_store_op ?_); refine wpList_store_lit 44 w.heap.size 0 (dlA a1 c1 a2 c2 k pr pr) (.agg (dlA a1 c1 a2 c2 k pr pr)) HR5.out sz44 (Nat.le_of_ble_eq_true rfl) rfl rfl ?_ ?_ ?_; exact rfl; exact rfl; intro w6 hp6; have HP := Lib.hid hp6; clear hp6))
          exact bodyPost_ret (results_row_one Try.results21 _ _ w.heap.size 44 _ _ _ rfl HP.out.at' Try.underlying44 rfl sz44) rfl ⟨_, rfl, HCL.out _ _ ((HD5.out.kept (HP.out.only.mono (fun k hk => by have := lt_row HS.out.res; omega))).base HS.out.bel.size), HP.out.below HB5.out HB5.out.size (Nat.le_refl _)⟩
      · have sca1 : decide ((k : Int) < (xs.length : Int)) = false := decide_eq_false (by omega)
        have sca1n : decide (k < xs.length) = false := decide_eq_false ca1
        have HLO := Lib.hid (show lowV xs ys da db k = lq xs (da km) by unfold lowV; rw [if_neg cb1, HVA.out.1])
        have HHL := Lib.hid (show highV xs ys da db k = lq ys (db km) by unfold highV; rw [if_neg ca1, HVA.out.2])
        rw [HLO.out, HHL.out] at HMI
        clear HLO HHL HLH HHI HVA
        clear cb1 ca1
        go_wp2_with (first
          | (go_at_call 45; (with_reducible refine (HMI.out _).mono ?_); rintro e w9 ⟨rfl, rfl⟩)
          | (go_at_call 46; (with_reducible refine HFI.out.mono ?_); rintro e w5 ⟨v5, rfl, hd5, hb5⟩; have HD5 := Lib.hid hd5; have HB5 := Lib.hid (show Below w.heap.size w w5 from HS.out.bel.trans (hb5.mono HS.out.bel.size)); have HR5 := Lib.hid (row_kept HS.out.res hb5); obtain ⟨a1, c1, a2, c2, rfl, _⟩ := hd5; clear hb5)
          | ((with_reducible refine at_store_op ?_); refine wpList_store_lit 44 w.heap.size 0 (dlA a1 c1 a2 c2 k pr pr) (.agg (dlA a1 c1 a2 c2 k pr pr)) HR5.out sz44 (Nat.le_of_ble_eq_true rfl) rfl rfl ?_ ?_ ?_; exact rfl; exact rfl; intro w6 hp6; have HP := Lib.hid hp6; clear hp6))
        exact bodyPost_ret (results_row_one Try.results21 _ _ w.heap.size 44 _ _ _ rfl HP.out.at' Try.underlying44 rfl sz44) rfl ⟨_, rfl, HCL.out _ _ ((HD5.out.kept (HP.out.only.mono (fun k hk => by have := lt_row HS.out.res; omega))).base HS.out.bel.size), HP.out.below HB5.out HB5.out.size (Nat.le_refl _)⟩
theorem rfirst_all (xs ys : List (BitVec 64)) (n pay get : Nat) (da db : Nat → Nat) (hza : RankZ true xs da) (hzb : RankZ false ys db) (aa ba : Option Addr) (ca cb : Nat) (w : World) (hna : n ≤ xs.length) (hnb : n ≤ ys.length) (hma : xs.length ≤ 17592186043904) (hmb : ys.length ≤ 17592186043904) (ha : Sl w aa (vQ xs)) (hb : Sl w ba (vQ ys)) :
    Calls Try.prog 46 #[.slice aa xs.length ca, .slice ba ys.length cb, .int .i64 n, .int .u64 pay, .int .u64 get] w fun r w' => ∃ v, r = .returned v ∧ RDealV n da db (if n = 0 then 0 else pay) (if n = 0 then 0 else get) w.heap.size w' v ∧ Below w.heap.size w w' := by
  by_cases h : n = 0
  · subst h
    exact rfirst_zero xs ys pay get da db aa ba ca cb w
  · rw [if_neg h, if_neg h]
    exact rfirst_any xs ys n pay get da db hza hzb aa ba ca cb w (by omega) hna hnb hma hmb ha hb
set_option maxRecDepth 100000 in
set_option maxHeartbeats 4000000 in
theorem rstrict_any (xs ys : List (BitVec 64)) (da db : Nat → Nat) (k : Nat) (hza : RankZ true xs da) (hzb : RankZ false ys db) (hk : KV xs ys da db k) (aa ba : Option Addr) (ca cb : Nat) (w : World) (hna : xs.length ≤ 17592186043904) (hnb : ys.length ≤ 17592186043904) (ha : Sl w aa (vQ xs)) (hb : Sl w ba (vQ ys)) :
    Calls Try.prog 22 #[.slice aa xs.length ca, .slice ba ys.length cb] w fun r w' => ∃ v, r = .returned v ∧ RDealV (stN xs ys da db k) da db (stPay xs ys da db k) (stGet xs ys da db k) w.heap.size w' v ∧ Below w.heap.size w w' := by
  obtain ⟨w1, hw1⟩ : ∃ w1, w1 = w.alloc (.cells #[.slice none 0 0, .slice none 0 0, .int .u64 0, .int .u64 0] 44) := ⟨_, rfl⟩
  have hb1 : Below w.heap.size w w1 := by rw [hw1]; exact (Below.refl _ _).alloc (Nat.le_refl _) _
  have hz1 : w1.heap[w.heap.size]? = some (.cells #[.slice none 0 0, .slice none 0 0, .int .u64 0, .int .u64 0] 44) := by rw [hw1]; exact alloc_at rfl
  have HKK := Lib.hid (rk_any xs ys da db k aa ba ca cb w1 hza hzb hk hna hnb (ha.kept hb1) (hb.kept hb1))
  have HRA := Lib.hid (show ∀ V, Below w1.heap.size w1 V → Calls Try.prog 44 #[.slice aa xs.length ca, .bool false] V fun r w' => ∃ (g : Nat), r = .returned (.slice (some ⟨g, 0, none⟩) xs.length xs.length) ∧ V.heap.size ≤ g ∧ Rw w' g xs.length da ∧ Below V.heap.size V w' from fun V h => rrank_any true xs da hza aa ca V hna ((ha.kept hb1).kept h))
  have HRB := Lib.hid (show ∀ V, Below w1.heap.size w1 V → Calls Try.prog 44 #[.slice ba ys.length cb, .bool true] V fun r w' => ∃ (g : Nat), r = .returned (.slice (some ⟨g, 0, none⟩) ys.length ys.length) ∧ V.heap.size ≤ g ∧ Rw w' g ys.length db ∧ Below V.heap.size V w' from fun V h => rrank_any false ys db hzb ba cb V hnb ((hb.kept hb1).kept h))
  have HLA := Lib.hid ha.lt
  have HLB := Lib.hid hb.lt
  have HA := Lib.hid (ha.kept hb1)
  have HB := Lib.hid (hb.kept hb1)
  have HW1 := Lib.hid hw1
  have HB1 := Lib.hid hb1
  have HZ1 := Lib.hid hz1
  have HZA := Lib.hid hza
  have HZB := Lib.hid hzb
  have HK := Lib.hid hk
  clear ha hb hb1 hz1 hw1 hza hzb hk
  go_enter Try.func22, Try.ntmps22
  go_upto_region 1 with fail
  rw [← HW1.out]
  go_upto_region 2 with (go_at_call 43; (with_reducible refine HKK.out.mono ?_); rintro e w2 ⟨rfl, hb2⟩)
  have HB2 := Lib.hid hb2
  have HZ2 := Lib.hid (row_kept HZ1.out hb2)
  clear hb2 HKK
  by_cases h0 : k = 0
  · have t0 : ((k : Int) == 0) = true := by rw [beq_iff_eq]; omega
    have HAN := Lib.hid (show ∀ W, RDealV (stN xs ys da db k) da db (stPay xs ys da db k) (stGet xs ys da db k) w.heap.size W (.agg (dlA none 0 none 0 0 0 0)) from fun W => by
      unfold stPay stGet stN; rw [if_pos h0]; simp only [if_true]
      exact ⟨none, 0, none, 0, rfl, (fun h => absurd rfl h), (fun h => absurd rfl h), (fun x h => by cases h), (fun x h => by cases h)⟩)
    clear h0
    go_wp2_with ((with_reducible refine at_store_op ?_); refine wpList_store_lit 44 w.heap.size 0 (dlA none 0 none 0 0 0 0) (.agg (dlA none 0 none 0 0 0 0)) HZ2.out sz44 (Nat.le_of_ble_eq_true rfl) rfl rfl ?_ ?_ ?_; exact rfl; exact rfl; intro w4 hp4; have HP := Lib.hid hp4; clear hp4)
    have hbw : Below w.heap.size w w2 := HB1.out.trans (HB2.out.mono HB1.out.size)
    exact bodyPost_ret (results_row_one Try.results22 _ _ w.heap.size 44 _ _ _ rfl HP.out.at' Try.underlying44 rfl sz44) rfl ⟨_, rfl, HAN.out _, HP.out.below hbw hbw.size (Nat.le_refl _)⟩
  · have t0 : ((k : Int) == 0) = false := by rw [beq_eq_false_iff_ne]; omega
    obtain ⟨km, hkm⟩ : ∃ km, km = k - 1 := ⟨_, rfl⟩
    have w1' : IntKind.i64.wrap ((k : Int) - 1) = (km : Int) := by rw [IntKind.wrap_i64]; have := HK.out.1; omega
    have HKM := Lib.hid (show km = k - 1 ∧ 0 < k ∧ km < xs.length ∧ km < ys.length by have := HK.out.1; have := HK.out.2.1; omega)
    go_upto_region 6 with (first
      | (go_at_call 44; (with_reducible refine (HRA.out _ HB2.out).mono ?_); rintro e w3 ⟨ga, rfl, hga, hra, hb3⟩; have HB3 := Lib.hid (HB2.out.trans (hb3.mono HB2.out.size)); have HR3 := Lib.hid hra; have HG3 := Lib.hid (show w.heap.size < ga by have h1 := lt_row HZ1.out; have h2 := HB2.out.size; omega); clear hga hra hb3)
      | (go_at_call 44; (with_reducible refine (HRB.out _ HB3.out).mono ?_); rintro e w4 ⟨gb, rfl, hgb, hrb, hb4⟩; have HB4 := Lib.hid (HB3.out.trans (hb4.mono HB3.out.size)); have HR4 := Lib.hid (show Rw w4 ga xs.length da ∧ Rw w4 gb ys.length db from ⟨HR3.out.kept hb4, hrb⟩); have HG4 := Lib.hid (show w.heap.size < gb by have h1 := lt_row HZ1.out; have h2 := HB3.out.size; omega); clear hgb hrb hb4))
    have HS := Lib.hid (show Rk xs ys aa ba w.heap.size ga gb da db w w4 from ⟨row_kept HZ1.out HB4.out, HR4.out.1, HR4.out.2, HA.out.kept HB4.out, HB.out.kept HB4.out, HB1.out.trans (HB4.out.mono HB1.out.size)⟩)
    clear HB3 HR3 HR4 HB2 HZ2 HRA HRB HA HB h0 hkm
    have la : km < xs.length := HKM.out.2.2.1
    have lb : km < ys.length := HKM.out.2.2.2
    obtain ⟨b1, o1, hba, y1⟩ := vQ_at HS.out.sa (da km) (rankz_lt HZA.out la)
    obtain ⟨b2, o2, hbb, y2⟩ := vQ_at HS.out.sb (db km) (rankz_lt HZB.out lb)
    have y3 := HS.out.ra.cell km la
    have y4 := HS.out.rb.cell km lb
    have l1 : (km : Int) < (xs.length : Int) := by omega
    have l2 : (km : Int) < (ys.length : Int) := by omega
    have l3 : (da km : Int) < (xs.length : Int) := by have := rankz_lt HZA.out la; omega
    have l4 : (db km : Int) < (ys.length : Int) := by have := rankz_lt HZB.out lb; omega
    subst hba hbb
    have ne1 : w.heap.size ≠ b1 := by have := HLA.out _ rfl (fun e => by have h := congrArg List.length e; rw [vQ_length] at h; rw [h] at la; cases la); exact Nat.ne_of_gt this
    have ne2 : w.heap.size ≠ b2 := by have := HLB.out _ rfl (fun e => by have h := congrArg List.length e; rw [vQ_length] at h; rw [h] at lb; cases lb); exact Nat.ne_of_gt this
    have ne3 : w.heap.size ≠ ga := by have := HG3.out; omega
    have ne4 : w.heap.size ≠ gb := by have := HG4.out; omega
    have HVA := Lib.hid (show lq xs (da (k - 1)) = lq xs (da km) ∧ lq ys (db (k - 1)) = lq ys (db km) by rw [HKM.out.1]; exact ⟨rfl, rfl⟩)
    obtain ⟨pb, hpb⟩ : ∃ pb, pb = if km = 0 then 0 else lq ys (db km) := ⟨_, rfl⟩
    obtain ⟨pg, hpg⟩ : ∃ pg, pg = if km = 0 then 0 else lq xs (da km) := ⟨_, rfl⟩
    have HFB := Lib.hid (show ∀ V, Qt w4 V → Calls Try.prog 46 #[.slice (some ⟨b1, o1, none⟩) xs.length ca, .slice (some ⟨b2, o2, none⟩) ys.length cb, .int .i64 km, .int .u64 (lq ys (db km)), .int .u64 (lq xs (da km))] V fun r w' => ∃ a1 c1 a2 c2, r = .returned (.agg #[.slice a1 km c1, .slice a2 km c2, .int .u64 pb, .int .u64 pg]) ∧ RDealV km da db pb pg V.heap.size w' (.agg (dlA a1 c1 a2 c2 km pb pg)) ∧ Below V.heap.size V w' from fun V hV => by
      have h := HS.out.kept (hV.below _)
      rw [hpb, hpg]
      refine (rfirst_all xs ys km _ _ da db HZA.out HZB.out _ _ ca cb V (by omega) (by omega) hna hnb h.sa h.sb).mono ?_
      rintro r w' ⟨v, rfl, hd, hb⟩
      have hd2 := hd
      obtain ⟨a1, c1, a2, c2, rfl, _⟩ := hd2
      exact ⟨a1, c1, a2, c2, rfl, hd, hb⟩)
    have HCB := Lib.hid (show stOK xs ys da db k = false → ∀ W v, RDealV km da db pb pg w.heap.size W v → RDealV (stN xs ys da db k) da db (stPay xs ys da db k) (stGet xs ys da db k) w.heap.size W v from fun hf W v h => by
      have e : stN xs ys da db k = km := by unfold stN; rw [hf, if_neg (by have := HKM.out.2.1; omega)]; simp only [Bool.false_eq_true, if_false]; have := HKM.out.1; omega
      unfold stPay stGet; rw [e, hf, HVA.out.1, HVA.out.2, ]; simp only [Bool.false_eq_true, if_false]; rw [← hpb, ← hpg]; exact h)
    clear hpb hpg la lb
    by_cases ca1 : k < xs.length
    · have sca1 : decide ((k : Int) < (xs.length : Int)) = true := decide_eq_true (by omega)
      have sca1n : decide (k < xs.length) = true := decide_eq_true ca1
      have y7 := HS.out.ra.cell k ca1
      obtain ⟨b4, o4, he4, y8⟩ := vQ_at HS.out.sa (da k) (rankz_lt HZA.out ca1)
      have l7 : (k : Int) < (xs.length : Int) := by omega
      have l8 : (da k : Int) < (xs.length : Int) := by have := rankz_lt HZA.out ca1; omega
      injection he4 with he4
      injection he4 with e1 e2 e3
      rw [← e1, ← e2] at y8
      clear e1 e2 e3
      by_cases cb1 : k < ys.length
      · have scb1 : decide ((k : Int) < (ys.length : Int)) = true := decide_eq_true (by omega)
        have scb1n : decide (k < ys.length) = true := decide_eq_true cb1
        have y5 := HS.out.rb.cell k cb1
        obtain ⟨b3, o3, he3, y6⟩ := vQ_at HS.out.sb (db k) (rankz_lt HZB.out cb1)
        have l5 : (k : Int) < (ys.length : Int) := by omega
        have l6 : (db k : Int) < (ys.length : Int) := by have := rankz_lt HZB.out cb1; omega
        injection he3 with he3
        injection he3 with e1 e2 e3
        rw [← e1, ← e2] at y6
        clear e1 e2 e3
        obtain ⟨mid, hmid⟩ : ∃ mid, mid = midV (lq xs (da k)) (lq ys (db k)) := ⟨_, rfl⟩
        have HMI := Lib.hid (show ∀ W, Calls Try.prog 45 #[.int .u64 (lq xs (da k)), .int .u64 (lq ys (db k))] W fun r w' => r = .returned (.int .u64 (mid : Nat)) ∧ w' = W from fun W => by rw [hmid]; exact (rmiddle_any _ _ W (lq_lt _ _) (lq_lt _ _)).mono fun r w' ⟨h1, h2⟩ => ⟨h1, h2.symm⟩)
        have hst : stMid xs ys da db k = mid := by rw [hmid]; rfl
        have HST := Lib.hid hst
        have HOD := Lib.hid (show stOK xs ys da db k = (decide (lq xs (da km) ≤ mid) && decide (mid ≤ lq ys (db km))) by unfold stOK; rw [hst, decide_eq_true ca1, decide_eq_true cb1, HVA.out.1, HVA.out.2]; rfl)
        clear hmid hst
        by_cases cc : lq xs (da km) ≤ mid
        · have scc : decide ((lq xs (da km) : Int) ≤ (mid : Int)) = true := decide_eq_true (by omega)
          have sccn : decide (lq xs (da km) ≤ mid) = true := decide_eq_true cc
          by_cases cd : mid ≤ lq ys (db km)
          · have scd : decide ((mid : Int) ≤ (lq ys (db km) : Int)) = true := decide_eq_true (by omega)
            have scdn : decide (mid ≤ lq ys (db km)) = true := decide_eq_true cd
            have HOK := Lib.hid (show stOK xs ys da db k = true by rw [HOD.out, scdn, sccn]; rfl)
            have HCL := Lib.hid (show ∀ W v, RDealV k da db mid mid w.heap.size W v → RDealV (stN xs ys da db k) da db (stPay xs ys da db k) (stGet xs ys da db k) w.heap.size W v from fun W v h => by
              have e : stN xs ys da db k = k := by unfold stN; rw [HOK.out, if_neg (by have := HKM.out.2.1; omega)]; simp only [if_true]
              have hk0 : ¬ k = 0 := by have := HKM.out.2.1; omega
              unfold stPay stGet; rw [e, HOK.out]; simp only [if_neg hk0, if_true]; rw [HST.out]; exact h)
            have HFF := Lib.hid (show ∀ V, Qt w4 V → Calls Try.prog 46 #[.slice (some ⟨b1, o1, none⟩) xs.length ca, .slice (some ⟨b2, o2, none⟩) ys.length cb, .int .i64 k, .int .u64 mid, .int .u64 mid] V fun r w' => ∃ v, r = .returned v ∧ RDealV k da db mid mid V.heap.size w' v ∧ Below V.heap.size V w' from fun V hV => by
              have h := HS.out.kept (hV.below _)
              exact rfirst_any xs ys k _ _ da db HZA.out HZB.out _ _ ca cb V HKM.out.2.1 HK.out.1 HK.out.2.1 hna hnb h.sa h.sb)
            clear HCB HVA HOK HOD HST HFB
            clear ca1 cb1 cc cd
            go_upto_region 7 with fail
            go_quiet ((go_at_call 45; exact Calls.quiet_of_same (HMI.out _)))
            obtain ⟨V3, hV3⟩ : ∃ V3, V3 = w4.drewN nq := ⟨_, rfl⟩
            rw [← hV3]
            have hqt : Qt w4 V3 := by rw [hV3]; exact Qt.drewN w4 nq
            have HFI := Lib.hid (HFF.out V3 hqt)
            have HSS := Lib.hid (HS.out.kept (hqt.below _))
            have y1 := (hqt.cell ⟨b1, o1 + da km, none⟩).trans y1
            have y2 := (hqt.cell ⟨b2, o2 + db km, none⟩).trans y2
            have y3 := (hqt.cell ⟨ga, km, none⟩).trans y3
            have y4 := (hqt.cell ⟨gb, km, none⟩).trans y4
            clear hqt hV3 HS HFF
            have HS := HSS
            go_wp2_with (first
              | (go_at_call 45; (with_reducible refine (HMI.out _).mono ?_); rintro e w9 ⟨rfl, rfl⟩)
              | (go_at_call 46; (with_reducible refine HFI.out.mono ?_); rintro e w5 ⟨v5, rfl, hd5, hb5⟩; have HD5 := Lib.hid hd5; have HB5 := Lib.hid (show Below w.heap.size w w5 from HS.out.bel.trans (hb5.mono HS.out.bel.size)); have HR5 := Lib.hid (row_kept HS.out.res hb5); obtain ⟨a1, c1, a2, c2, rfl, _⟩ := hd5; clear hb5)
              | ((with_reducible refine at_store_op ?_); refine wpList_store_lit 44 w.heap.size 0 (dlA a1 c1 a2 c2 k mid mid) (.agg (dlA a1 c1 a2 c2 k mid mid)) HR5.out sz44 (Nat.le_of_ble_eq_true rfl) rfl rfl ?_ ?_ ?_; exact rfl; exact rfl; intro w6 hp6; have HP := Lib.hid hp6; clear hp6))
            exact bodyPost_ret (results_row_one Try.results22 _ _ w.heap.size 44 _ _ _ rfl HP.out.at' Try.underlying44 rfl sz44) rfl ⟨_, rfl, HCL.out _ _ ((HD5.out.kept (HP.out.only.mono (fun k hk => by have := lt_row HS.out.res; omega))).base HS.out.bel.size), HP.out.below HB5.out HB5.out.size (Nat.le_refl _)⟩
          · have scd : decide ((mid : Int) ≤ (lq ys (db km) : Int)) = false := decide_eq_false (by omega)
            have scdn : decide (mid ≤ lq ys (db km)) = false := decide_eq_false cd
            have HOK := Lib.hid (show stOK xs ys da db k = false by rw [HOD.out, scdn, sccn]; rfl)
            clear HOD HST
            clear ca1 cb1 cc cd
            go_upto_region 7 with fail
            go_quiet ((go_at_call 45; exact Calls.quiet_of_same (HMI.out _)))
            obtain ⟨V3, hV3⟩ : ∃ V3, V3 = w4.drewN nq := ⟨_, rfl⟩
            rw [← hV3]
            have hqt : Qt w4 V3 := by rw [hV3]; exact Qt.drewN w4 nq
            have HSS := Lib.hid (HS.out.kept (hqt.below _))
            have y1 := (hqt.cell ⟨b1, o1 + da km, none⟩).trans y1
            have y2 := (hqt.cell ⟨b2, o2 + db km, none⟩).trans y2
            have y3 := (hqt.cell ⟨ga, km, none⟩).trans y3
            have y4 := (hqt.cell ⟨gb, km, none⟩).trans y4
            have HFB2 := Lib.hid (fun V (h : Qt V3 V) => HFB.out V (hqt.trans h))
            clear hqt hV3 HS HFB
            have HS := HSS
            have HFB := HFB2
            clear HSS HFB2
            have HF := Lib.hid (HCB.out HOK.out)
            clear HCB HVA HOK
            go_upto_region 10 with fail
            have hQ : Qt V3 V3.drew := Qt.drewN V3 1
            have hAt := HS.out.kept (hQ.below _)
            have q1 := (hQ.cell ⟨b1, o1 + da km, none⟩).trans y1
            have q2 := (hQ.cell ⟨b2, o2 + db km, none⟩).trans y2
            have q3 := (hQ.cell ⟨ga, km, none⟩).trans y3
            have q4 := (hQ.cell ⟨gb, km, none⟩).trans y4
            go_region_held3 (fun V => V.cell? ⟨b1, o1 + da km, none⟩ = some (.int .u64 (lq xs (da km))) ∧ V.cell? ⟨b2, o2 + db km, none⟩ = some (.int .u64 (lq ys (db km))) ∧ V.cell? ⟨ga, km, none⟩ = some (.int .i64 (da km)) ∧ V.cell? ⟨gb, km, none⟩ = some (.int .i64 (db km))) (go_keep)
              ((go_at_call 46; (with_reducible refine (HFB.out _ hQ).mono ?_); rintro e w5 ⟨a1, c1, a2, c2, rfl, hd5, hb5⟩; have hAt5 := hAt.kept hb5; have p1 := (hb5.cell (World.block_lt_of_cell? _ _ q1)).trans q1; have p2 := (hb5.cell (World.block_lt_of_cell? _ _ q2)).trans q2; have p3 := (hb5.cell (World.block_lt_of_cell? _ _ q3)).trans q3; have p4 := (hb5.cell (World.block_lt_of_cell? _ _ q4)).trans q4; obtain ⟨x0, y0, x1, z1, x2, z2, x3, z3, hrow4⟩ := four44 (.slice a1 km c1) (.slice a2 km c2) (.int .u64 pb) (.int .u64 pg) _ _ _ _ hAt5.res))
            have hgr : w5.grownBy ((((w5.setCell ⟨w.heap.size, 0, none⟩ (.slice a1 km c1)).setCell ⟨w.heap.size, 1, none⟩ (.slice a2 km c2)).setCell ⟨w.heap.size, 2, none⟩ (.int .u64 pb)).setCell ⟨w.heap.size, 3, none⟩ (.int .u64 pg)) (some (w.heap.size)) :=
              grown_set (grown_set (grown_set (grown_set (grown_refl w5 (some (w.heap.size))) 0 _) 1 _) 2 _) 3 _
            generalize ((((w5.setCell ⟨w.heap.size, 0, none⟩ (.slice a1 km c1)).setCell ⟨w.heap.size, 1, none⟩ (.slice a2 km c2)).setCell ⟨w.heap.size, 2, none⟩ (.int .u64 pb)).setCell ⟨w.heap.size, 3, none⟩ (.int .u64 pg)) = W4 at *
            have hon := Only.of_grown (S := fun k => k = w.heap.size) hgr (fun k hk => by injection hk with e; exact e.symm)
            have hs1 := hAt.bel.size
            have hrl := lt_row hAt.res
            have HD := Lib.hid (HF.out _ _ ((hd5.kept (hon.mono (fun k hk => by omega))).base hs1))
            have HBL := Lib.hid (hAt5.bel.trans (hon.below hAt5.bel.size (fun k hk => by omega)))
            have HR4 := Lib.hid hrow4
            clear hgr hon hs1 hrl hd5 hb5 hAt hAt5 q1 q2 q3 q4 p1 p2 p3 p4 x0 y0 x1 z1 x2 z2 x3 z3 hrow4 hQ HFB HS HF
            go_wp2
            exact bodyPost_ret (results_row_one Try.results22 _ _ (w.heap.size) 44 _ _ _ rfl HR4.out Try.underlying44 rfl sz44) rfl ⟨_, rfl, HD.out, HBL.out⟩
        · have scc : decide ((lq xs (da km) : Int) ≤ (mid : Int)) = false := decide_eq_false (by omega)
          have sccn : decide (lq xs (da km) ≤ mid) = false := decide_eq_false cc
          have HOK := Lib.hid (show stOK xs ys da db k = false by rw [HOD.out, sccn]; rfl)
          clear HOD HST
          clear ca1 cb1 cc
          go_upto_region 7 with fail
          go_quiet ((go_at_call 45; exact Calls.quiet_of_same (HMI.out _)))
          obtain ⟨V3, hV3⟩ : ∃ V3, V3 = w4.drewN nq := ⟨_, rfl⟩
          rw [← hV3]
          have hqt : Qt w4 V3 := by rw [hV3]; exact Qt.drewN w4 nq
          have HSS := Lib.hid (HS.out.kept (hqt.below _))
          have y1 := (hqt.cell ⟨b1, o1 + da km, none⟩).trans y1
          have y2 := (hqt.cell ⟨b2, o2 + db km, none⟩).trans y2
          have y3 := (hqt.cell ⟨ga, km, none⟩).trans y3
          have y4 := (hqt.cell ⟨gb, km, none⟩).trans y4
          have HFB2 := Lib.hid (fun V (h : Qt V3 V) => HFB.out V (hqt.trans h))
          clear hqt hV3 HS HFB
          have HS := HSS
          have HFB := HFB2
          clear HSS HFB2
          have HF := Lib.hid (HCB.out HOK.out)
          clear HCB HVA HOK
          go_upto_region 10 with fail
          have hQ : Qt V3 V3.drew := Qt.drewN V3 1
          have hAt := HS.out.kept (hQ.below _)
          have q1 := (hQ.cell ⟨b1, o1 + da km, none⟩).trans y1
          have q2 := (hQ.cell ⟨b2, o2 + db km, none⟩).trans y2
          have q3 := (hQ.cell ⟨ga, km, none⟩).trans y3
          have q4 := (hQ.cell ⟨gb, km, none⟩).trans y4
          go_region_held3 (fun V => V.cell? ⟨b1, o1 + da km, none⟩ = some (.int .u64 (lq xs (da km))) ∧ V.cell? ⟨b2, o2 + db km, none⟩ = some (.int .u64 (lq ys (db km))) ∧ V.cell? ⟨ga, km, none⟩ = some (.int .i64 (da km)) ∧ V.cell? ⟨gb, km, none⟩ = some (.int .i64 (db km))) (go_keep)
            ((go_at_call 46; (with_reducible refine (HFB.out _ hQ).mono ?_); rintro e w5 ⟨a1, c1, a2, c2, rfl, hd5, hb5⟩; have hAt5 := hAt.kept hb5; have p1 := (hb5.cell (World.block_lt_of_cell? _ _ q1)).trans q1; have p2 := (hb5.cell (World.block_lt_of_cell? _ _ q2)).trans q2; have p3 := (hb5.cell (World.block_lt_of_cell? _ _ q3)).trans q3; have p4 := (hb5.cell (World.block_lt_of_cell? _ _ q4)).trans q4; obtain ⟨x0, y0, x1, z1, x2, z2, x3, z3, hrow4⟩ := four44 (.slice a1 km c1) (.slice a2 km c2) (.int .u64 pb) (.int .u64 pg) _ _ _ _ hAt5.res))
          have hgr : w5.grownBy ((((w5.setCell ⟨w.heap.size, 0, none⟩ (.slice a1 km c1)).setCell ⟨w.heap.size, 1, none⟩ (.slice a2 km c2)).setCell ⟨w.heap.size, 2, none⟩ (.int .u64 pb)).setCell ⟨w.heap.size, 3, none⟩ (.int .u64 pg)) (some (w.heap.size)) :=
            grown_set (grown_set (grown_set (grown_set (grown_refl w5 (some (w.heap.size))) 0 _) 1 _) 2 _) 3 _
          generalize ((((w5.setCell ⟨w.heap.size, 0, none⟩ (.slice a1 km c1)).setCell ⟨w.heap.size, 1, none⟩ (.slice a2 km c2)).setCell ⟨w.heap.size, 2, none⟩ (.int .u64 pb)).setCell ⟨w.heap.size, 3, none⟩ (.int .u64 pg)) = W4 at *
          have hon := Only.of_grown (S := fun k => k = w.heap.size) hgr (fun k hk => by injection hk with e; exact e.symm)
          have hs1 := hAt.bel.size
          have hrl := lt_row hAt.res
          have HD := Lib.hid (HF.out _ _ ((hd5.kept (hon.mono (fun k hk => by omega))).base hs1))
          have HBL := Lib.hid (hAt5.bel.trans (hon.below hAt5.bel.size (fun k hk => by omega)))
          have HR4 := Lib.hid hrow4
          clear hgr hon hs1 hrl hd5 hb5 hAt hAt5 q1 q2 q3 q4 p1 p2 p3 p4 x0 y0 x1 z1 x2 z2 x3 z3 hrow4 hQ HFB HS HF
          go_wp2
          exact bodyPost_ret (results_row_one Try.results22 _ _ (w.heap.size) 44 _ _ _ rfl HR4.out Try.underlying44 rfl sz44) rfl ⟨_, rfl, HD.out, HBL.out⟩
      · have scb1 : decide ((k : Int) < (ys.length : Int)) = false := decide_eq_false (by omega)
        have scb1n : decide (k < ys.length) = false := decide_eq_false cb1
        have HOK := Lib.hid (show stOK xs ys da db k = false by unfold stOK; rw [decide_eq_false cb1]; simp)
        clear ca1 cb1
        have HF := Lib.hid (HCB.out HOK.out)
        clear HCB HVA HOK
        go_upto_region 10 with fail
        have hQ : Qt w4 w4.drew := Qt.drewN w4 1
        have hAt := HS.out.kept (hQ.below _)
        have q1 := (hQ.cell ⟨b1, o1 + da km, none⟩).trans y1
        have q2 := (hQ.cell ⟨b2, o2 + db km, none⟩).trans y2
        have q3 := (hQ.cell ⟨ga, km, none⟩).trans y3
        have q4 := (hQ.cell ⟨gb, km, none⟩).trans y4
        go_region_held3 (fun V => V.cell? ⟨b1, o1 + da km, none⟩ = some (.int .u64 (lq xs (da km))) ∧ V.cell? ⟨b2, o2 + db km, none⟩ = some (.int .u64 (lq ys (db km))) ∧ V.cell? ⟨ga, km, none⟩ = some (.int .i64 (da km)) ∧ V.cell? ⟨gb, km, none⟩ = some (.int .i64 (db km))) (go_keep)
          ((go_at_call 46; (with_reducible refine (HFB.out _ hQ).mono ?_); rintro e w5 ⟨a1, c1, a2, c2, rfl, hd5, hb5⟩; have hAt5 := hAt.kept hb5; have p1 := (hb5.cell (World.block_lt_of_cell? _ _ q1)).trans q1; have p2 := (hb5.cell (World.block_lt_of_cell? _ _ q2)).trans q2; have p3 := (hb5.cell (World.block_lt_of_cell? _ _ q3)).trans q3; have p4 := (hb5.cell (World.block_lt_of_cell? _ _ q4)).trans q4; obtain ⟨x0, y0, x1, z1, x2, z2, x3, z3, hrow4⟩ := four44 (.slice a1 km c1) (.slice a2 km c2) (.int .u64 pb) (.int .u64 pg) _ _ _ _ hAt5.res))
        have hgr : w5.grownBy ((((w5.setCell ⟨w.heap.size, 0, none⟩ (.slice a1 km c1)).setCell ⟨w.heap.size, 1, none⟩ (.slice a2 km c2)).setCell ⟨w.heap.size, 2, none⟩ (.int .u64 pb)).setCell ⟨w.heap.size, 3, none⟩ (.int .u64 pg)) (some (w.heap.size)) :=
          grown_set (grown_set (grown_set (grown_set (grown_refl w5 (some (w.heap.size))) 0 _) 1 _) 2 _) 3 _
        generalize ((((w5.setCell ⟨w.heap.size, 0, none⟩ (.slice a1 km c1)).setCell ⟨w.heap.size, 1, none⟩ (.slice a2 km c2)).setCell ⟨w.heap.size, 2, none⟩ (.int .u64 pb)).setCell ⟨w.heap.size, 3, none⟩ (.int .u64 pg)) = W4 at *
        have hon := Only.of_grown (S := fun k => k = w.heap.size) hgr (fun k hk => by injection hk with e; exact e.symm)
        have hs1 := hAt.bel.size
        have hrl := lt_row hAt.res
        have HD := Lib.hid (HF.out _ _ ((hd5.kept (hon.mono (fun k hk => by omega))).base hs1))
        have HBL := Lib.hid (hAt5.bel.trans (hon.below hAt5.bel.size (fun k hk => by omega)))
        have HR4 := Lib.hid hrow4
        clear hgr hon hs1 hrl hd5 hb5 hAt hAt5 q1 q2 q3 q4 p1 p2 p3 p4 x0 y0 x1 z1 x2 z2 x3 z3 hrow4 hQ HFB HS HF
        go_wp2
        exact bodyPost_ret (results_row_one Try.results22 _ _ (w.heap.size) 44 _ _ _ rfl HR4.out Try.underlying44 rfl sz44) rfl ⟨_, rfl, HD.out, HBL.out⟩
    · have sca1 : decide ((k : Int) < (xs.length : Int)) = false := decide_eq_false (by omega)
      have sca1n : decide (k < xs.length) = false := decide_eq_false ca1
      have HOK := Lib.hid (show stOK xs ys da db k = false by unfold stOK; rw [decide_eq_false ca1]; simp)
      clear ca1
      have HF := Lib.hid (HCB.out HOK.out)
      clear HCB HVA HOK
      go_upto_region 10 with fail
      have hQ : Qt w4 w4.drew := Qt.drewN w4 1
      have hAt := HS.out.kept (hQ.below _)
      have q1 := (hQ.cell ⟨b1, o1 + da km, none⟩).trans y1
      have q2 := (hQ.cell ⟨b2, o2 + db km, none⟩).trans y2
      have q3 := (hQ.cell ⟨ga, km, none⟩).trans y3
      have q4 := (hQ.cell ⟨gb, km, none⟩).trans y4
      go_region_held3 (fun V => V.cell? ⟨b1, o1 + da km, none⟩ = some (.int .u64 (lq xs (da km))) ∧ V.cell? ⟨b2, o2 + db km, none⟩ = some (.int .u64 (lq ys (db km))) ∧ V.cell? ⟨ga, km, none⟩ = some (.int .i64 (da km)) ∧ V.cell? ⟨gb, km, none⟩ = some (.int .i64 (db km))) (go_keep)
        ((go_at_call 46; (with_reducible refine (HFB.out _ hQ).mono ?_); rintro e w5 ⟨a1, c1, a2, c2, rfl, hd5, hb5⟩; have hAt5 := hAt.kept hb5; have p1 := (hb5.cell (World.block_lt_of_cell? _ _ q1)).trans q1; have p2 := (hb5.cell (World.block_lt_of_cell? _ _ q2)).trans q2; have p3 := (hb5.cell (World.block_lt_of_cell? _ _ q3)).trans q3; have p4 := (hb5.cell (World.block_lt_of_cell? _ _ q4)).trans q4; obtain ⟨x0, y0, x1, z1, x2, z2, x3, z3, hrow4⟩ := four44 (.slice a1 km c1) (.slice a2 km c2) (.int .u64 pb) (.int .u64 pg) _ _ _ _ hAt5.res))
      have hgr : w5.grownBy ((((w5.setCell ⟨w.heap.size, 0, none⟩ (.slice a1 km c1)).setCell ⟨w.heap.size, 1, none⟩ (.slice a2 km c2)).setCell ⟨w.heap.size, 2, none⟩ (.int .u64 pb)).setCell ⟨w.heap.size, 3, none⟩ (.int .u64 pg)) (some (w.heap.size)) :=
        grown_set (grown_set (grown_set (grown_set (grown_refl w5 (some (w.heap.size))) 0 _) 1 _) 2 _) 3 _
      generalize ((((w5.setCell ⟨w.heap.size, 0, none⟩ (.slice a1 km c1)).setCell ⟨w.heap.size, 1, none⟩ (.slice a2 km c2)).setCell ⟨w.heap.size, 2, none⟩ (.int .u64 pb)).setCell ⟨w.heap.size, 3, none⟩ (.int .u64 pg)) = W4 at *
      have hon := Only.of_grown (S := fun k => k = w.heap.size) hgr (fun k hk => by injection hk with e; exact e.symm)
      have hs1 := hAt.bel.size
      have hrl := lt_row hAt.res
      have HD := Lib.hid (HF.out _ _ ((hd5.kept (hon.mono (fun k hk => by omega))).base hs1))
      have HBL := Lib.hid (hAt5.bel.trans (hon.below hAt5.bel.size (fun k hk => by omega)))
      have HR4 := Lib.hid hrow4
      clear hgr hon hs1 hrl hd5 hb5 hAt hAt5 q1 q2 q3 q4 p1 p2 p3 p4 x0 y0 x1 z1 x2 z2 x3 z3 hrow4 hQ HFB HS HF
      go_wp2
      exact bodyPost_ret (results_row_one Try.results22 _ _ (w.heap.size) 44 _ _ _ rfl HR4.out Try.underlying44 rfl sz44) rfl ⟨_, rfl, HD.out, HBL.out⟩
end Go.Proofs.Ytbggibdldadpiaa
