/-
  Layer 19: Clear and Strict.
-/
import Derived.Test.YtbggibdldadpiaaHc
namespace Go.Proofs.Ytbggibdldadpiaa
open Go.RowKit Go.K
open Go.Stab (swp rot Srt Prm Out)
set_option linter.unusedVariables false
set_option linter.unusedSimpArgs false
theorem rank_up {l : List (BitVec 64)} {d : Nat → Nat} (h : RankZ true l d) {i j : Nat} (hij : i ≤ j) (hj : j < l.length) : lq l (d i) ≤ lq l (d j) := by
  by_cases e : i = j
  · rw [e]; exact Nat.le_refl _
  · have := h.1 i j (Nat.zero_le _) (by omega) hj
    unfold TU at this; simp only [if_true] at this; omega
theorem rank_down {l : List (BitVec 64)} {d : Nat → Nat} (h : RankZ false l d) {i j : Nat} (hij : i ≤ j) (hj : j < l.length) : lq l (d j) ≤ lq l (d i) := by
  by_cases e : i = j
  · rw [e]; exact Nat.le_refl _
  · have := h.1 i j (Nat.zero_le _) (by omega) hj
    unfold TU at this; simp only [Bool.false_eq_true, if_false] at this; omega
/-- What bounds the price from below, and from above. -/
def lowV (xs ys : List (BitVec 64)) (da db : Nat → Nat) (k : Nat) : Nat := if k < ys.length then max (lq xs (da (k - 1))) (lq ys (db k)) else lq xs (da (k - 1))
def highV (xs ys : List (BitVec 64)) (da db : Nat → Nat) (k : Nat) : Nat := if k < xs.length then min (lq ys (db (k - 1))) (lq xs (da k)) else lq ys (db (k - 1))
def priceV (xs ys : List (BitVec 64)) (da db : Nat → Nat) (k : Nat) : Nat := if k = 0 then 0 else lowV xs ys da db k + (highV xs ys da db k - lowV xs ys da db k) / 2
theorem low_high {xs ys : List (BitVec 64)} {da db : Nat → Nat} {k : Nat} (ha : RankZ true xs da) (hb : RankZ false ys db) (hk : KV xs ys da db k) (h0 : 0 < k) : lowV xs ys da db k ≤ highV xs ys da db k := by
  have h1 := hk.2.2.1 (k - 1) (by omega)
  unfold lowV highV
  by_cases c1 : k < ys.length
  · have h2 := rank_down hb (show k - 1 ≤ k by omega) c1
    rw [if_pos c1]
    by_cases c2 : k < xs.length
    · have h3 := rank_up ha (show k - 1 ≤ k by omega) c2
      have h4 := hk.2.2.2 c2 c1
      rw [if_pos c2]; omega
    · rw [if_neg c2]; omega
  · rw [if_neg c1]
    by_cases c2 : k < xs.length
    · have h3 := rank_up ha (show k - 1 ≤ k by omega) c2
      rw [if_pos c2]; omega
    · rw [if_neg c2]; exact h1
/-- The book while an answer is made. -/
structure Bk2 (xs ys : List (BitVec 64)) (aa : Option Addr) (ca : Nat) (ba : Option Addr) (cb p rs ga gb : Nat) (da db : Nat → Nat) (k : Nat) (w V : World) : Prop where
  row : V.heap[p]? = some (.cells (bkA aa ca xs.length ba cb ys.length ga gb k) 65)
  ra : Rw V ga xs.length da
  rb : Rw V gb ys.length db
  sa : Sl V aa (vQ xs)
  sb : Sl V ba (vQ ys)
  bel : Below w.heap.size w V
  res : V.heap[rs]? = some (.cells #[.slice none 0 0, .slice none 0 0, .int .u64 0, .int .u64 0] 27)
theorem Bk2.kept {xs ys : List (BitVec 64)} {aa ba : Option Addr} {ca cb p rs ga gb k : Nat} {da db : Nat → Nat} {w V V' : World} (h : Bk2 xs ys aa ca ba cb p rs ga gb da db k w V) (hb : Below V.heap.size V V') : Bk2 xs ys aa ca ba cb p rs ga gb da db k w V' :=
  ⟨row_kept h.row hb, h.ra.kept hb, h.rb.kept hb, h.sa.kept hb, h.sb.kept hb, h.bel.trans (hb.mono h.bel.size), row_kept h.res hb⟩
theorem Bk2.cell {xs ys : List (BitVec 64)} {aa ba : Option Addr} {ca cb p rs ga gb k : Nat} {da db : Nat → Nat} {w V : World} (h : Bk2 xs ys aa ca ba cb p rs ga gb da db k w V) : V.cell? ⟨p, 4, none⟩ = some (.int .i64 k) := by
  rw [cell_of_row _ _ _ _ _ _ h.row]; rfl
/-- What Clear answers. -/
def ClearA (xs ys : List (BitVec 64)) (B : Nat) (W : World) (v : Value) : Prop := ∃ da db k, RankZ true xs da ∧ RankZ false ys db ∧ KV xs ys da db k ∧ DealV k da db (priceV xs ys da db k) (priceV xs ys da db k) B W v
theorem deal_none (da db : Nat → Nat) (B : Nat) (W : World) : DealV 0 da db 0 0 B W (.agg (dlA none 0 none 0 0 0 0)) := ⟨none, 0, none, 0, B, rfl, Nat.le_refl _, World.ownsRow_nil _ _ _ _, (fun k hk => by cases hk), World.ownsRow_nil _ _ _ _⟩
theorem DealV.kept {n pay get B : Nat} {da db : Nat → Nat} {W W' : World} {v : Value} (h : DealV n da db pay get B W v) (ho : Only (fun k => k < B) W W') : DealV n da db pay get B W' v := by
  obtain ⟨a1, c1, a2, c2, M, h1, h2, h3, h4, h5⟩ := h
  exact ⟨a1, c1, a2, c2, M, h1, h2, ho.owns h3 (fun k hk => by have := (h3.lt k hk).1; omega), h4, ho.owns h5 (fun k hk => by have := (h5.lt k hk).1; omega)⟩
theorem DealV.base {n pay get B B' : Nat} {da db : Nat → Nat} {W : World} {v : Value} (h : DealV n da db pay get B W v) (hb : B' ≤ B) : DealV n da db pay get B' W v := by
  obtain ⟨a1, c1, a2, c2, M, h1, h2, h3, h4, h5⟩ := h
  exact ⟨a1, c1, a2, c2, M, h1, by omega, owns_base h3 hb, h4, h5⟩
set_option maxRecDepth 100000 in
set_option maxHeartbeats 4000000 in
theorem clear_any (xs ys : List (BitVec 64)) (aa ba : Option Addr) (ca cb : Nat) (w : World) (hna : xs.length ≤ 17592186043904) (hnb : ys.length ≤ 17592186043904) (ha : Sl w aa (vQ xs)) (hb : Sl w ba (vQ ys)) :
    Calls Try.prog 8 #[.slice aa xs.length ca, .slice ba ys.length cb] w fun r w' => ∃ v, r = .returned v ∧ ClearA xs ys w.heap.size w' v ∧ Below w.heap.size w w' := by
  have HLA := Lib.hid ha.lt
  have HLB := Lib.hid hb.lt
  obtain ⟨w1, hw1⟩ : ∃ w1, w1 = w.alloc (.cells #[.slice none 0 0, .slice none 0 0, .int .u64 0, .int .u64 0] 27) := ⟨_, rfl⟩
  have hb1 : Below w.heap.size w w1 := by rw [hw1]; exact (Below.refl _ _).alloc (Nat.le_refl _) _
  have hz1 : w1.heap[w.heap.size]? = some (.cells #[.slice none 0 0, .slice none 0 0, .int .u64 0, .int .u64 0] 27) := by rw [hw1]; exact alloc_at rfl
  have HOP := Lib.hid (opened_any xs ys aa ba ca cb w1 hna hnb (ha.kept hb1) (hb.kept hb1))
  have HW1 := Lib.hid hw1
  have HB1 := Lib.hid hb1
  have HZ1 := Lib.hid hz1
  clear ha hb hb1 hz1 hw1
  go_enter Try.func8, Try.ntmps8
  go_upto_region 1 with fail
  rw [← HW1.out]
  go_upto_region 2 with (first
    | (go_at_call 30; (with_reducible refine HOP.out.mono ?_); rintro e w2 ⟨ga, gb, da, db, k, rfl, hga, hgb, hza, hzb, hk, hra, hrb, hsa, hsb, hb2⟩)
    | ((with_reducible refine at_store_op ?_); refine wpList_store_lit 65 w2.heap.size 0 (bkA aa ca xs.length ba cb ys.length ga gb k) (.agg (bkA aa ca xs.length ba cb ys.length ga gb k)) (cur := #[.slice none 0 0, .slice none 0 0, .slice none 0 0, .slice none 0 0, .int .i64 0]) (t := 65) (alloc_at rfl) sz65 (Nat.le_of_ble_eq_true rfl) rfl rfl ?_ ?_ ?_; exact rfl; exact rfl; intro w3 hp3))
  obtain ⟨p, hp⟩ : ∃ p, p = w2.heap.size := ⟨_, rfl⟩
  rw [← hp] at hp3 ⊢
  have HPW := Lib.hid (show w.heap.size < p ∧ ga < gb ∧ w.heap.size < ga by
    have h1 := lt_row HZ1.out
    have h2 := hb2.size
    omega)
  have hb2w : Below w.heap.size w w2 := HB1.out.trans (hb2.mono HB1.out.size)
  have HS0 := Lib.hid (show Bk2 xs ys aa ca ba cb p w.heap.size ga gb da db k w w3 from
    ⟨hp3.at', hp3.row (alloc_old hra) (by have := lt_row hra; omega), hp3.row (alloc_old hrb) (by have := lt_row hrb; omega), hp3.only.sl (hsa.kept ((Below.refl _ _).alloc (Nat.le_refl _) _)) (fun y hy hne => by have := HLA.out y hy hne; have := HPW.out; omega), hp3.only.sl (hsb.kept ((Below.refl _ _).alloc (Nat.le_refl _) _)) (fun y hy hne => by have := HLB.out y hy hne; have := HPW.out; omega),
      hp3.below (hb2w.alloc hb2w.size _) (by have := hb2w.size; simp; omega) (by have := HPW.out; omega), hp3.row (alloc_old (row_kept HZ1.out hb2)) (by have := HPW.out; omega)⟩)
  have HZA := Lib.hid hza
  have HZB := Lib.hid hzb
  have HK := Lib.hid hk
  clear hga hgb hza hzb hk hra hrb hsa hsb hb2 hp3 hb2w hp
  have z4 := HS0.out.cell
  by_cases h0 : k = 0
  · have t0 : ((k : Int) == 0) = true := by rw [beq_iff_eq]; omega
    have HRES := Lib.hid (show ∀ W, ClearA xs ys w.heap.size W (.agg (dlA none 0 none 0 0 0 0)) from fun W => ⟨da, db, k, HZA.out, HZB.out, HK.out, by unfold priceV; rw [if_pos h0, h0]; exact deal_none _ _ _ _⟩)
    clear h0
    go_wp2_with ((with_reducible refine at_store_op ?_); refine wpList_store_lit 27 w.heap.size 0 (dlA none 0 none 0 0 0 0) (.agg (dlA none 0 none 0 0 0 0)) HS0.out.res sz27 (Nat.le_of_ble_eq_true rfl) rfl rfl ?_ ?_ ?_; exact rfl; exact rfl; intro w4 hp4; have HP := Lib.hid hp4; clear hp4)
    exact bodyPost_ret (results_row_one Try.results8 _ _ w.heap.size 27 _ _ _ rfl HP.out.at' Try.underlying27 rfl sz27) rfl ⟨_, rfl, HRES.out _, HP.out.below HS0.out.bel HS0.out.bel.size (Nat.le_refl _)⟩
  · have t0 : ((k : Int) == 0) = false := by rw [beq_eq_false_iff_ne]; omega
    obtain ⟨km, hkm⟩ : ∃ km, km = k - 1 := ⟨_, rfl⟩
    have w1' : IntKind.i64.wrap ((k : Int) - 1) = (km : Int) := by rw [IntKind.wrap_i64]; have := HK.out.1; omega
    have HKM := Lib.hid (show km = k - 1 ∧ 0 < k ∧ km < xs.length ∧ km < ys.length by have := HK.out.1; have := HK.out.2.1; omega)
    have HASK := Lib.hid (show ∀ V, Bk2 xs ys aa ca ba cb p w.heap.size ga gb da db k w V → Calls Try.prog 31 #[.agg (bkA aa ca xs.length ba cb ys.length ga gb k), .int .i64 km] V fun r V' => r = .returned (.int .u64 (lq xs (da km))) ∧ Bk2 xs ys aa ca ba cb p w.heap.size ga gb da db k w V' from fun V h =>
      (ask_any xs da aa ba ca cb ys.length ga gb k km V HKM.out.2.2.1 (rankz_lt HZA.out HKM.out.2.2.1) h.sa h.ra).mono fun r V' ⟨h1, h2⟩ => ⟨h1, h.kept h2⟩)
    have HBID := Lib.hid (show ∀ V, Bk2 xs ys aa ca ba cb p w.heap.size ga gb da db k w V → Calls Try.prog 32 #[.agg (bkA aa ca xs.length ba cb ys.length ga gb k), .int .i64 km] V fun r V' => r = .returned (.int .u64 (lq ys (db km))) ∧ Bk2 xs ys aa ca ba cb p w.heap.size ga gb da db k w V' from fun V h =>
      (bid_any ys db aa ba ca cb xs.length ga gb k km V HKM.out.2.2.2 (rankz_lt HZB.out HKM.out.2.2.2) h.sb h.rb).mono fun r V' ⟨h1, h2⟩ => ⟨h1, h.kept h2⟩)
    have HS := HS0
    clear h0 hkm HS0
    go_wp2
    refine wp_region_inv 12 (fun V => Bk2 xs ys aa ca ba cb p w.heap.size ga gb da db k w V) (by kernel_rfl) (by kernel_rfl) (fun n => HS.out.kept (below_drawn (Below.refl _ _) n)) ?_
    simp only [List.take_succ_cons, List.take_zero]
    iterate 12
      apply wpInv_cons
      · rfl
      · intro Wx hw
        have q1 := hw.cell
        first
          | (go_simp; exact ⟨hw, rfl⟩)
          | exact inv_load_row 65 _ rfl p rfl 65 _ _ _ hw.row Try.underlying65 rfl sz65 hw
          | (go_simp; show Calls _ _ _ _ _; with_reducible exact HASK.out _ hw)
          | (go_simp; show Calls _ _ _ _ _; with_reducible exact HBID.out _ hw)
      simp only [Act.put, List.setIfInBounds_toArray, List.set_cons_zero, List.set_cons_succ]
    refine wpInv_nil fun V3 hV => ?_
    have HV := Lib.hid hV
    clear hV
    simp only [List.drop_succ_cons, List.drop_zero]
    clear HS HASK HBID z4
    have z4 := HV.out.cell
    obtain ⟨tb, htb⟩ : ∃ tb, decide ((k : Int) < (ys.length : Int)) = tb := ⟨_, rfl⟩
    have htb2 : decide (k < ys.length) = tb := by rw [← htb]; exact decide_eq_decide.2 (by omega)
    have HTB := Lib.hid htb2
    obtain ⟨tc, htc⟩ : ∃ tc, decide ((k : Int) < (xs.length : Int)) = tc := ⟨_, rfl⟩
    have htc2 : decide (k < xs.length) = tc := by rw [← htc]; exact decide_eq_decide.2 (by omega)
    have HTC := Lib.hid htc2
    go_upto_if 30 with fail
    clear htb htb2 htc htc2 w1'
    go_cut [6] from 31 to 36 (fun s6 W => s6 = .int .u64 ((lowV xs ys da db k : Nat) : Int) ∧ Bk2 xs ys aa ca ba cb p w.heap.size ga gb da db k w W)
    case first =>
      cases tb
      case false =>
        have hlt := of_decide_eq_false HTB.out
        have HE := Lib.hid (show lowV xs ys da db k = lq xs (da km) by unfold lowV; rw [if_neg hlt, HKM.out.1])
        clear hlt
        go_wp2
        go_meet
        exact ⟨by rw [HE.out], HV.out⟩
      case true =>
        have hlt := of_decide_eq_true HTB.out
        have HE := Lib.hid (show lowV xs ys da db k = max (lq xs (da km)) (lq ys (db k)) by unfold lowV; rw [if_pos hlt, HKM.out.1])
        have HBI := Lib.hid (bid_any ys db aa ba ca cb xs.length ga gb k k V3 hlt (rankz_lt HZB.out hlt) HV.out.sb HV.out.rb)
        clear hlt
        generalize lq xs (da km) = va at *
        generalize lq ys (db k) = vb at *
        go_wp2_with (first
          | refine wpList_load_lit 65 p HV.out.row Try.underlying65 rfl sz65 (by exact rfl) ?_
          | (go_at_call 32; (with_reducible refine HBI.out.mono ?_); rintro e w9 ⟨rfl, hb9⟩; have HB9 := Lib.hid hb9; clear hb9))
        all_goals
          go_meet
          exact ⟨congrArg (Value.int .u64) (by rw [HE.out]; omega), HV.out.kept HB9.out⟩
    case rest =>
    obtain ⟨rfl, hs⟩ := hcut
    have HV2 := Lib.hid hs
    clear hs HV z4 HTB
    have z4 := HV2.out.cell
    have htc : decide ((k : Int) < (xs.length : Int)) = tc := by rw [← HTC.out]; exact decide_eq_decide.2 (by omega)
    have htcn : decide (k < xs.length) = tc := HTC.out
    go_upto_if 41 with fail
    clear htc htcn
    go_cut [7] from 42 to 47 (fun s7 W => s7 = .int .u64 ((highV xs ys da db k : Nat) : Int) ∧ Bk2 xs ys aa ca ba cb p w.heap.size ga gb da db k w W)
    case first =>
      cases tc
      case false =>
        have hlt := of_decide_eq_false HTC.out
        have HE := Lib.hid (show highV xs ys da db k = lq ys (db km) by unfold highV; rw [if_neg hlt, HKM.out.1])
        clear hlt
        go_wp2
        go_meet
        exact ⟨by rw [HE.out], HV2.out⟩
      case true =>
        have hlt := of_decide_eq_true HTC.out
        have HE := Lib.hid (show highV xs ys da db k = min (lq ys (db km)) (lq xs (da k)) by unfold highV; rw [if_pos hlt, HKM.out.1])
        have HBI := Lib.hid (ask_any xs da aa ba ca cb ys.length ga gb k k wc hlt (rankz_lt HZA.out hlt) HV2.out.sa HV2.out.ra)
        clear hlt
        generalize lq xs (da k) = va at *
        generalize lq ys (db km) = vb at *
        go_wp2_with (first
          | refine wpList_load_lit 65 p HV2.out.row Try.underlying65 rfl sz65 (by exact rfl) ?_
          | (go_at_call 31; (with_reducible refine HBI.out.mono ?_); rintro e w9 ⟨rfl, hb9⟩; have HB9 := Lib.hid hb9; clear hb9))
        all_goals
          go_meet
          exact ⟨congrArg (Value.int .u64) (by rw [HE.out]; omega), HV2.out.kept HB9.out⟩
    case rest =>
    obtain ⟨rfl, hs⟩ := hcut
    have HV3 := Lib.hid hs
    clear hs HV2 z4 HTC
    have z4 := HV3.out.cell
    have hlh := low_high HZA.out HZB.out HK.out HKM.out.2.1
    have hhi : highV xs ys da db k < 18446744073709551616 := by
      unfold highV
      have h1 := lq_lt ys (db (k - 1))
      split <;> omega
    have HMI := Lib.hid (fun W => middle_any (lowV xs ys da db k) (highV xs ys da db k) W hlh hhi)
    have HPR := Lib.hid (show priceV xs ys da db k = lowV xs ys da db k + (highV xs ys da db k - lowV xs ys da db k) / 2 by unfold priceV; rw [if_neg (by have := HKM.out.2.1; omega)])
    rw [← HPR.out] at HMI
    generalize lowV xs ys da db k = lo at *
    generalize highV xs ys da db k = hi at *
    have HFI := Lib.hid (first_any xs.length ys.length k (priceV xs ys da db k) (priceV xs ys da db k) da db aa ba ca cb ga gb k wc HKM.out.2.1 HK.out.1 HK.out.2.1 hna hnb HV3.out.ra HV3.out.rb)
    have HCL := Lib.hid (show ∀ W v, DealV k da db (priceV xs ys da db k) (priceV xs ys da db k) w.heap.size W v → ClearA xs ys w.heap.size W v from fun W v h => ⟨da, db, k, HZA.out, HZB.out, HK.out, h⟩)
    generalize priceV xs ys da db k = pr at *
    clear hlh hhi HPR
    go_wp2_with (first
      | (go_at_call 33; (with_reducible refine (HMI.out _).mono ?_); rintro e w9 ⟨rfl, rfl⟩)
      | refine wpList_load_lit 65 p HV3.out.row Try.underlying65 rfl sz65 (by exact rfl) ?_
      | (go_at_call 34; (with_reducible refine HFI.out.mono ?_); rintro e w9 ⟨v9, rfl, hd9, hb9⟩; have HD9 := Lib.hid hd9; have HB9 := Lib.hid hb9; have HRS := Lib.hid (HV3.out.kept hb9).res; obtain ⟨a1, c1, a2, c2, M, rfl, _⟩ := hd9; clear hb9)
      | ((with_reducible refine at_store_op ?_); refine wpList_store_lit 27 w.heap.size 0 (dlA a1 c1 a2 c2 k pr pr) (.agg (dlA a1 c1 a2 c2 k pr pr)) HRS.out sz27 (Nat.le_of_ble_eq_true rfl) rfl rfl ?_ ?_ ?_; exact rfl; exact rfl; intro w4 hp4; have HP := Lib.hid hp4; clear hp4))
    have hbw : Below w.heap.size w w9 := HV3.out.bel.trans (HB9.out.mono HV3.out.bel.size)
    exact bodyPost_ret (results_row_one Try.results8 _ _ w.heap.size 27 _ _ _ rfl HP.out.at' Try.underlying27 rfl sz27) rfl ⟨_, rfl, HCL.out _ _ ((HD9.out.kept (HP.out.only.mono (fun k hk => by have := lt_row HV3.out.res; omega))).base HV3.out.bel.size), HP.out.below hbw hbw.size (Nat.le_refl _)⟩
end Go.Proofs.Ytbggibdldadpiaa
