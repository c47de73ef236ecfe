/-
  Layer 19: Strict.
-/
import Derived.Test.YtbggibdldadpiaaHd
namespace Go.Proofs.Ytbggibdldadpiaa
open Go.RowKit Go.K
open Go.Stab (swp rot Srt Prm Out)
set_option linter.unusedVariables false
set_option linter.unusedSimpArgs false
/-- The middle of the first two that don't deal. -/
def stMid (xs ys : List (BitVec 64)) (da db : Nat → Nat) (k : Nat) : Nat := min (lq xs (da k)) (lq ys (db k)) + (max (lq xs (da k)) (lq ys (db k)) - min (lq xs (da k)) (lq ys (db k))) / 2
/-- Do all that could deal? -/
def stOK (xs ys : List (BitVec 64)) (da db : Nat → Nat) (k : Nat) : Bool := decide (k < xs.length) && decide (k < ys.length) && decide (lq xs (da (k - 1)) ≤ stMid xs ys da db k) && decide (stMid xs ys da db k ≤ lq ys (db (k - 1)))
def stN (xs ys : List (BitVec 64)) (da db : Nat → Nat) (k : Nat) : Nat := if k = 0 then 0 else if stOK xs ys da db k then k else k - 1
def stPay (xs ys : List (BitVec 64)) (da db : Nat → Nat) (k : Nat) : Nat := if stN xs ys da db k = 0 then 0 else if stOK xs ys da db k then stMid xs ys da db k else lq ys (db (k - 1))
def stGet (xs ys : List (BitVec 64)) (da db : Nat → Nat) (k : Nat) : Nat := if stN xs ys da db k = 0 then 0 else if stOK xs ys da db k then stMid xs ys da db k else lq xs (da (k - 1))
/-- What Strict answers. -/
def StrictA (xs ys : List (BitVec 64)) (B : Nat) (W : World) (v : Value) : Prop := ∃ da db k, RankZ true xs da ∧ RankZ false ys db ∧ KV xs ys da db k ∧ DealV (stN xs ys da db k) da db (stPay xs ys da db k) (stGet xs ys da db k) B W v
set_option maxRecDepth 100000 in
set_option maxHeartbeats 2000000 in
theorem strict_any (xs ys : List (BitVec 64)) (aa ba : Option Addr) (ca cb : Nat) (w : World) (hna : xs.length ≤ 17592186043904) (hnb : ys.length ≤ 17592186043904) (ha : Sl w aa (vQ xs)) (hb : Sl w ba (vQ ys)) :
    Calls Try.prog 15 #[.slice aa xs.length ca, .slice ba ys.length cb] w fun r w' => ∃ v, r = .returned v ∧ StrictA xs ys w.heap.size w' v ∧ Below w.heap.size w w' := by
  have HLA := Lib.hid ha.lt
  have HLB := Lib.hid hb.lt
  obtain ⟨w1, hw1⟩ : ∃ w1, w1 = w.alloc (.cells #[.slice none 0 0, .slice none 0 0, .int .u64 0, .int .u64 0] 27) := ⟨_, rfl⟩
  have hb1 : Below w.heap.size w w1 := by rw [hw1]; exact (Below.refl _ _).alloc (Nat.le_refl _) _
  have hz1 : w1.heap[w.heap.size]? = some (.cells #[.slice none 0 0, .slice none 0 0, .int .u64 0, .int .u64 0] 27) := by rw [hw1]; exact alloc_at rfl
  have HOP := Lib.hid (opened_any xs ys aa ba ca cb w1 hna hnb (ha.kept hb1) (hb.kept hb1))
  have HW1 := Lib.hid hw1
  have HB1 := Lib.hid hb1
  have HZ1 := Lib.hid hz1
  clear ha hb hb1 hz1 hw1
  go_enter Try.func15, Try.ntmps15
  go_upto_region 1 with fail
  rw [← HW1.out]
  go_upto_region 2 with (first
    | (go_at_call 30; (with_reducible refine HOP.out.mono ?_); rintro e w2 ⟨ga, gb, da, db, k, rfl, hga, hgb, hza, hzb, hk, hra, hrb, hsa, hsb, hb2⟩)
    | ((with_reducible refine at_store_op ?_); refine wpList_store_lit 65 w2.heap.size 0 (bkA aa ca xs.length ba cb ys.length ga gb k) (.agg (bkA aa ca xs.length ba cb ys.length ga gb k)) (cur := #[.slice none 0 0, .slice none 0 0, .slice none 0 0, .slice none 0 0, .int .i64 0]) (t := 65) (alloc_at rfl) sz65 (Nat.le_of_ble_eq_true rfl) rfl rfl ?_ ?_ ?_; exact rfl; exact rfl; intro w3 hp3))
  obtain ⟨p, hp⟩ : ∃ p, p = w2.heap.size := ⟨_, rfl⟩
  rw [← hp] at hp3 ⊢
  have HPW := Lib.hid (show w.heap.size < p ∧ ga < gb ∧ w.heap.size < ga by
    have h1 := lt_row HZ1.out
    have h2 := hb2.size
    omega)
  have hb2w : Below w.heap.size w w2 := HB1.out.trans (hb2.mono HB1.out.size)
  have HS0 := Lib.hid (show Bk2 xs ys aa ca ba cb p w.heap.size ga gb da db k w w3 from
    ⟨hp3.at', hp3.row (alloc_old hra) (by have := lt_row hra; omega), hp3.row (alloc_old hrb) (by have := lt_row hrb; omega), hp3.only.sl (hsa.kept ((Below.refl _ _).alloc (Nat.le_refl _) _)) (fun y hy hne => by have := HLA.out y hy hne; have := HPW.out; omega), hp3.only.sl (hsb.kept ((Below.refl _ _).alloc (Nat.le_refl _) _)) (fun y hy hne => by have := HLB.out y hy hne; have := HPW.out; omega),
      hp3.below (hb2w.alloc hb2w.size _) (by have := hb2w.size; simp; omega) (by have := HPW.out; omega), hp3.row (alloc_old (row_kept HZ1.out hb2)) (by have := HPW.out; omega)⟩)
  have HZA := Lib.hid hza
  have HZB := Lib.hid hzb
  have HK := Lib.hid hk
  clear hga hgb hza hzb hk hra hrb hsa hsb hb2 hp3 hb2w hp
  have z4 := HS0.out.cell
  by_cases h0 : k = 0
  · have t0 : ((k : Int) == 0) = true := by rw [beq_iff_eq]; omega
    have HRES := Lib.hid (show ∀ W, StrictA xs ys w.heap.size W (.agg (dlA none 0 none 0 0 0 0)) from fun W => ⟨da, db, k, HZA.out, HZB.out, HK.out, by unfold stPay stGet stN; rw [if_pos h0]; simp only [if_true]; exact deal_none _ _ _ _⟩)
    clear h0
    go_wp2_with ((with_reducible refine at_store_op ?_); refine wpList_store_lit 27 w.heap.size 0 (dlA none 0 none 0 0 0 0) (.agg (dlA none 0 none 0 0 0 0)) HS0.out.res sz27 (Nat.le_of_ble_eq_true rfl) rfl rfl ?_ ?_ ?_; exact rfl; exact rfl; intro w4 hp4; have HP := Lib.hid hp4; clear hp4)
    exact bodyPost_ret (results_row_one Try.results15 _ _ w.heap.size 27 _ _ _ rfl HP.out.at' Try.underlying27 rfl sz27) rfl ⟨_, rfl, HRES.out _, HP.out.below HS0.out.bel HS0.out.bel.size (Nat.le_refl _)⟩
  · have t0 : ((k : Int) == 0) = false := by rw [beq_eq_false_iff_ne]; omega
    obtain ⟨km, hkm⟩ : ∃ km, km = k - 1 := ⟨_, rfl⟩
    have w1' : IntKind.i64.wrap ((k : Int) - 1) = (km : Int) := by rw [IntKind.wrap_i64]; have := HK.out.1; omega
    have HKM := Lib.hid (show km = k - 1 ∧ 0 < k ∧ km < xs.length ∧ km < ys.length by have := HK.out.1; have := HK.out.2.1; omega)
    have HASK := Lib.hid (show ∀ V, Bk2 xs ys aa ca ba cb p w.heap.size ga gb da db k w V → Calls Try.prog 31 #[.agg (bkA aa ca xs.length ba cb ys.length ga gb k), .int .i64 km] V fun r V' => r = .returned (.int .u64 (lq xs (da km))) ∧ Bk2 xs ys aa ca ba cb p w.heap.size ga gb da db k w V' from fun V h =>
      (ask_any xs da aa ba ca cb ys.length ga gb k km V HKM.out.2.2.1 (rankz_lt HZA.out HKM.out.2.2.1) h.sa h.ra).mono fun r V' ⟨h1, h2⟩ => ⟨h1, h.kept h2⟩)
    have HBID := Lib.hid (show ∀ V, Bk2 xs ys aa ca ba cb p w.heap.size ga gb da db k w V → Calls Try.prog 32 #[.agg (bkA aa ca xs.length ba cb ys.length ga gb k), .int .i64 km] V fun r V' => r = .returned (.int .u64 (lq ys (db km))) ∧ Bk2 xs ys aa ca ba cb p w.heap.size ga gb da db k w V' from fun V h =>
      (bid_any ys db aa ba ca cb xs.length ga gb k km V HKM.out.2.2.2 (rankz_lt HZB.out HKM.out.2.2.2) h.sb h.rb).mono fun r V' ⟨h1, h2⟩ => ⟨h1, h.kept h2⟩)
    have HS := HS0
    clear h0 hkm HS0
    go_wp2
    refine wp_region_inv 12 (fun V => Bk2 xs ys aa ca ba cb p w.heap.size ga gb da db k w V) (by kernel_rfl) (by kernel_rfl) (fun n => HS.out.kept (below_drawn (Below.refl _ _) n)) ?_
    simp only [List.take_succ_cons, List.take_zero]
    iterate 12
      apply wpInv_cons
      · rfl
      · intro Wx hw
        have q1 := hw.cell
        first
          | (go_simp; exact ⟨hw, rfl⟩)
          | exact inv_load_row 65 _ rfl p rfl 65 _ _ _ hw.row Try.underlying65 rfl sz65 hw
          | (go_simp; show Calls _ _ _ _ _; with_reducible exact HASK.out _ hw)
          | (go_simp; show Calls _ _ _ _ _; with_reducible exact HBID.out _ hw)
      simp only [Act.put, List.setIfInBounds_toArray, List.set_cons_zero, List.set_cons_succ]
    refine wpInv_nil fun V3 hV => ?_
    have HV := Lib.hid hV
    clear hV
    simp only [List.drop_succ_cons, List.drop_zero]
    clear HS HASK HBID z4
    have z4 := HV.out.cell
    by_cases c1 : k < xs.length
    · have t1 : decide ((k : Int) < (xs.length : Int)) = true := decide_eq_true (by omega)
      have t1n : decide (k < xs.length) = true := decide_eq_true c1
      by_cases c2 : k < ys.length
      · have t2 : decide ((k : Int) < (ys.length : Int)) = true := decide_eq_true (by omega)
        have t2n : decide (k < ys.length) = true := decide_eq_true c2
        have HC := Lib.hid (show k < xs.length ∧ k < ys.length from ⟨c1, c2⟩)
        have HASK := Lib.hid (show ∀ V, Bk2 xs ys aa ca ba cb p w.heap.size ga gb da db k w V → Calls Try.prog 31 #[.agg (bkA aa ca xs.length ba cb ys.length ga gb k), .int .i64 k] V fun r V' => r = .returned (.int .u64 (lq xs (da k))) ∧ Bk2 xs ys aa ca ba cb p w.heap.size ga gb da db k w V' from fun V h =>
          (ask_any xs da aa ba ca cb ys.length ga gb k k V c1 (rankz_lt HZA.out c1) h.sa h.ra).mono fun r V' ⟨h1, h2⟩ => ⟨h1, h.kept h2⟩)
        have HBID := Lib.hid (show ∀ V, Bk2 xs ys aa ca ba cb p w.heap.size ga gb da db k w V → Calls Try.prog 32 #[.agg (bkA aa ca xs.length ba cb ys.length ga gb k), .int .i64 k] V fun r V' => r = .returned (.int .u64 (lq ys (db k))) ∧ Bk2 xs ys aa ca ba cb p w.heap.size ga gb da db k w V' from fun V h =>
          (bid_any ys db aa ba ca cb xs.length ga gb k k V c2 (rankz_lt HZB.out c2) h.sb h.rb).mono fun r V' ⟨h1, h2⟩ => ⟨h1, h.kept h2⟩)
        have HS := HV
        clear c1 c2 HV
        go_wp2
        refine wp_region_inv 10 (fun V => Bk2 xs ys aa ca ba cb p w.heap.size ga gb da db k w V) (by kernel_rfl) (by kernel_rfl) (fun n => HS.out.kept (below_drawn (Below.refl _ _) n)) ?_
        simp only [List.take_succ_cons, List.take_zero]
        iterate 10
          apply wpInv_cons
          · rfl
          · intro Wx hw
            have q1 := hw.cell
            first
              | (go_simp; exact ⟨hw, rfl⟩)
              | exact inv_load_row 65 _ rfl p rfl 65 _ _ _ hw.row Try.underlying65 rfl sz65 hw
              | (go_simp; show Calls _ _ _ _ _; with_reducible exact HASK.out _ hw)
              | (go_simp; show Calls _ _ _ _ _; with_reducible exact HBID.out _ hw)
          simp only [Act.put, List.setIfInBounds_toArray, List.set_cons_zero, List.set_cons_succ]
        refine wpInv_nil fun V3 hV => ?_
        have HV := Lib.hid hV
        clear hV
        simp only [List.drop_succ_cons, List.drop_zero]
        clear HS HASK HBID z4
        have HVT := HV
        have hmm : stMid xs ys da db k = min (lq xs (da k)) (lq ys (db k)) + (max (lq xs (da k)) (lq ys (db k)) - min (lq xs (da k)) (lq ys (db k))) / 2 := rfl
        have HMID := Lib.hid (fun W => middle_any (min (lq xs (da k)) (lq ys (db k))) (max (lq xs (da k)) (lq ys (db k))) W (by omega) (by have h1 := lq_lt xs (da k); have h2 := lq_lt ys (db k); omega))
        rw [← hmm] at HMID
        clear hmm
        have HOKD := Lib.hid (show stOK xs ys da db k = (decide (lq xs (da km) ≤ stMid xs ys da db k) && decide (stMid xs ys da db k ≤ lq ys (db km))) by unfold stOK; rw [decide_eq_true HC.out.1, decide_eq_true HC.out.2, ← HKM.out.1]; rfl)
        generalize lq xs (da k) = vx at *
        generalize lq ys (db k) = vy at *
        obtain ⟨mn, hmn⟩ : ∃ mn, mn = min vx vy := ⟨_, rfl⟩
        obtain ⟨mx, hmx⟩ : ∃ mx, mx = max vx vy := ⟨_, rfl⟩
        rw [← hmn, ← hmx] at HMID
        have HMM := Lib.hid (show mn = min vx vy ∧ mx = max vx vy from ⟨hmn, hmx⟩)
        clear hmn hmx
        have z4 := HV.out.cell
        go_upto_region 7 with fail
        obtain ⟨mid, hmid⟩ : ∃ mid, mid = stMid xs ys da db k := ⟨_, rfl⟩
        rw [← hmid] at HMID HOKD
        have HMI := Lib.hid hmid
        clear hmid
        go_cut [10] from 48 to 54 (fun s10 W => s10 = .int .u64 (mid : Int) ∧ W = V3)
        case first =>
          rcases Nat.lt_trichotomy vx vy with c | c | c
          · have c0 : ¬ vy < vx := by omega
            have e1 : mn = vx := by have := HMM.out; omega
            have e2 : mx = vy := by have := HMM.out; omega
            rw [e1, e2] at HMID
            clear e1 e2 HMM
            go_wp2_with (go_at_call 33; (with_reducible refine (HMID.out _).mono ?_); rintro e w9 ⟨rfl, rfl⟩)
            go_meet
            exact ⟨rfl, rfl⟩
          · have c0 : ¬ vy < vx := by omega
            have c1 : ¬ vx < vy := by omega
            have e1 : mn = vx := by have := HMM.out; omega
            have e2 : mx = vx := by have := HMM.out; omega
            rw [e1, e2] at HMID
            clear e1 e2 HMM c
            go_wp2_with (go_at_call 33; (with_reducible refine (HMID.out _).mono ?_); rintro e w9 ⟨rfl, rfl⟩)
            go_meet
            exact ⟨rfl, rfl⟩
          · have c0 : ¬ vx < vy := by omega
            have e1 : mn = vy := by have := HMM.out; omega
            have e2 : mx = vx := by have := HMM.out; omega
            rw [e1, e2] at HMID
            clear e1 e2 HMM
            go_wp2_with (go_at_call 33; (with_reducible refine (HMID.out _).mono ?_); rintro e w9 ⟨rfl, rfl⟩)
            go_meet
            exact ⟨rfl, rfl⟩
        case rest =>
        obtain ⟨rfl, rfl⟩ := hcut
        clear HMID HMM
        have HVT := HV
        have HV4 := HV
        clear HV z4
        by_cases d1 : lq xs (da km) ≤ mid
        · have u1 : decide ((lq xs (da km) : Int) ≤ (mid : Int)) = true := decide_eq_true (by omega)
          have u1n : decide (lq xs (da km) ≤ mid) = true := decide_eq_true d1
          by_cases d2 : mid ≤ lq ys (db km)
          · have u2 : decide ((mid : Int) ≤ (lq ys (db km) : Int)) = true := decide_eq_true (by omega)
            have u2n : decide (mid ≤ lq ys (db km)) = true := decide_eq_true d2
            have HOK := Lib.hid (show stOK xs ys da db k = true by rw [HOKD.out, u1n, u2n]; rfl)
            rw [HMI.out] at u1 u1n u2 u2n ⊢
            clear d1 d2 HMI HOKD
            generalize lq xs (da km) = q1 at *
            generalize lq ys (db km) = q2 at *
            have z4 := HVT.out.cell
            have HFI := Lib.hid (first_any xs.length ys.length k (stMid xs ys da db k) (stMid xs ys da db k) da db aa ba ca cb ga gb k wc HKM.out.2.1 HK.out.1 HK.out.2.1 hna hnb HVT.out.ra HVT.out.rb)
            have HCL := Lib.hid (show ∀ W v, DealV k da db (stMid xs ys da db k) (stMid xs ys da db k) w.heap.size W v → StrictA xs ys w.heap.size W v from fun W v h => ⟨da, db, k, HZA.out, HZB.out, HK.out, by
              unfold stN stPay stGet stN; rw [HOK.out, if_neg (by have := HKM.out.2.1; omega)]; simp only [if_true]; rw [if_neg (by have := HKM.out.2.1; omega)]; exact h⟩)
            generalize stMid xs ys da db k = pr at *
            go_upto_region 9 with fail
            go_wp2_with (first
              | refine wpList_load_lit 65 p HVT.out.row Try.underlying65 rfl sz65 (by exact rfl) ?_
              | (go_at_call 34; (with_reducible refine HFI.out.mono ?_); rintro e w9 ⟨v9, rfl, hd9, hb9⟩; have HD9 := Lib.hid hd9; have HB9 := Lib.hid hb9; have HRS := Lib.hid (HVT.out.kept hb9).res; obtain ⟨a1, c1, a2, c2, M, rfl, _⟩ := hd9; clear hb9)
              | ((with_reducible refine at_store_op ?_); refine wpList_store_lit 27 w.heap.size 0 (dlA a1 c1 a2 c2 k pr pr) (.agg (dlA a1 c1 a2 c2 k pr pr)) HRS.out sz27 (Nat.le_of_ble_eq_true rfl) rfl rfl ?_ ?_ ?_; exact rfl; exact rfl; intro w4 hp4; have HP := Lib.hid hp4; clear hp4))
            have hbw : Below w.heap.size w w9 := HVT.out.bel.trans (HB9.out.mono HVT.out.bel.size)
            exact bodyPost_ret (results_row_one Try.results15 _ _ w.heap.size 27 _ _ _ rfl HP.out.at' Try.underlying27 rfl sz27) rfl ⟨_, rfl, HCL.out _ _ ((HD9.out.kept (HP.out.only.mono (fun k hk => by have := lt_row HVT.out.res; omega))).base HVT.out.bel.size), HP.out.below hbw hbw.size (Nat.le_refl _)⟩
          · have u2 : decide ((mid : Int) ≤ (lq ys (db km) : Int)) = false := decide_eq_false (by omega)
            have u2n : decide (mid ≤ lq ys (db km)) = false := decide_eq_false d2
            have HOK := Lib.hid (show stOK xs ys da db k = false by rw [HOKD.out, u1n, u2n]; rfl)
            clear d1 d2
            have z4 := HVT.out.cell
            by_cases hk0 : km = 0
            · have HFI := Lib.hid (show Calls Try.prog 34 #[.agg (bkA aa ca xs.length ba cb ys.length ga gb k), .int .i64 km, .int .u64 (lq ys (db km)), .int .u64 (lq xs (da km))] wc fun r w' => r = .returned (.agg (dlA none 0 none 0 0 0 0)) ∧ Below (World.heap wc).size wc w' by rw [hk0]; exact first_zero xs.length ys.length _ _ aa ba ca cb ga gb k _)
              have HCL := Lib.hid (show ∀ W, StrictA xs ys w.heap.size W (.agg (dlA none 0 none 0 0 0 0)) from fun W => ⟨da, db, k, HZA.out, HZB.out, HK.out, by
                have e : stN xs ys da db k = 0 := by unfold stN; rw [HOK.out, if_neg (by have := HKM.out.2.1; omega)]; simp only [Bool.false_eq_true, if_false]; have := HKM.out.1; omega
                unfold stPay stGet; rw [e]; simp only [if_true]; exact deal_none _ _ _ _⟩)
              clear hk0
              go_upto_region 10 with fail
              go_wp2_with (first
                | refine wpList_load_lit 65 p HVT.out.row Try.underlying65 rfl sz65 (by exact rfl) ?_
                | (go_at_call 34; (with_reducible refine HFI.out.mono ?_); rintro e w9 ⟨rfl, hb9⟩; have HB9 := Lib.hid hb9; have HRS := Lib.hid (HVT.out.kept hb9).res; clear hb9)
                | ((with_reducible refine at_store_op ?_); refine wpList_store_lit 27 w.heap.size 0 (dlA none 0 none 0 0 0 0) (.agg (dlA none 0 none 0 0 0 0)) HRS.out sz27 (Nat.le_of_ble_eq_true rfl) rfl rfl ?_ ?_ ?_; exact rfl; exact rfl; intro w4 hp4; have HP := Lib.hid hp4; clear hp4))
              have hbw : Below w.heap.size w w9 := HVT.out.bel.trans (HB9.out.mono HVT.out.bel.size)
              exact bodyPost_ret (results_row_one Try.results15 _ _ w.heap.size 27 _ _ _ rfl HP.out.at' Try.underlying27 rfl sz27) rfl ⟨_, rfl, HCL.out _, HP.out.below hbw hbw.size (Nat.le_refl _)⟩
            · have HFI := Lib.hid (first_any xs.length ys.length km (lq ys (db km)) (lq xs (da km)) da db aa ba ca cb ga gb k wc (by omega) (by have := HKM.out; omega) (by have := HKM.out; omega) hna hnb HVT.out.ra HVT.out.rb)
              have HCL := Lib.hid (show ∀ W v, DealV km da db (lq ys (db km)) (lq xs (da km)) w.heap.size W v → StrictA xs ys w.heap.size W v from fun W v h => ⟨da, db, k, HZA.out, HZB.out, HK.out, by
                have e : stN xs ys da db k = km := by unfold stN; rw [HOK.out, if_neg (by have := HKM.out.2.1; omega)]; simp only [Bool.false_eq_true, if_false]; have := HKM.out.1; omega
                unfold stPay stGet; rw [e, if_neg hk0, if_neg hk0, HOK.out]; simp only [Bool.false_eq_true, if_false]; rw [← HKM.out.1]; exact h⟩)
              clear hk0
              generalize lq ys (db km) = vb at *
              generalize lq xs (da km) = va at *
              go_upto_region 10 with fail
              go_wp2_with (first
                | refine wpList_load_lit 65 p HVT.out.row Try.underlying65 rfl sz65 (by exact rfl) ?_
                | (go_at_call 34; (with_reducible refine HFI.out.mono ?_); rintro e w9 ⟨v9, rfl, hd9, hb9⟩; have HD9 := Lib.hid hd9; have HB9 := Lib.hid hb9; have HRS := Lib.hid (HVT.out.kept hb9).res; obtain ⟨a1, c1, a2, c2, M, rfl, _⟩ := hd9; clear hb9)
                | ((with_reducible refine at_store_op ?_); refine wpList_store_lit 27 w.heap.size 0 (dlA a1 c1 a2 c2 km vb va) (.agg (dlA a1 c1 a2 c2 km vb va)) HRS.out sz27 (Nat.le_of_ble_eq_true rfl) rfl rfl ?_ ?_ ?_; exact rfl; exact rfl; intro w4 hp4; have HP := Lib.hid hp4; clear hp4))
              have hbw : Below w.heap.size w w9 := HVT.out.bel.trans (HB9.out.mono HVT.out.bel.size)
              exact bodyPost_ret (results_row_one Try.results15 _ _ w.heap.size 27 _ _ _ rfl HP.out.at' Try.underlying27 rfl sz27) rfl ⟨_, rfl, HCL.out _ _ ((HD9.out.kept (HP.out.only.mono (fun k hk => by have := lt_row HVT.out.res; omega))).base HVT.out.bel.size), HP.out.below hbw hbw.size (Nat.le_refl _)⟩
        · have u1 : decide ((lq xs (da km) : Int) ≤ (mid : Int)) = false := decide_eq_false (by omega)
          have u1n : decide (lq xs (da km) ≤ mid) = false := decide_eq_false d1
          have HOK := Lib.hid (show stOK xs ys da db k = false by rw [HOKD.out, u1n]; rfl)
          clear d1
          have z4 := HVT.out.cell
          by_cases hk0 : km = 0
          · have HFI := Lib.hid (show Calls Try.prog 34 #[.agg (bkA aa ca xs.length ba cb ys.length ga gb k), .int .i64 km, .int .u64 (lq ys (db km)), .int .u64 (lq xs (da km))] wc fun r w' => r = .returned (.agg (dlA none 0 none 0 0 0 0)) ∧ Below (World.heap wc).size wc w' by rw [hk0]; exact first_zero xs.length ys.length _ _ aa ba ca cb ga gb k _)
            have HCL := Lib.hid (show ∀ W, StrictA xs ys w.heap.size W (.agg (dlA none 0 none 0 0 0 0)) from fun W => ⟨da, db, k, HZA.out, HZB.out, HK.out, by
              have e : stN xs ys da db k = 0 := by unfold stN; rw [HOK.out, if_neg (by have := HKM.out.2.1; omega)]; simp only [Bool.false_eq_true, if_false]; have := HKM.out.1; omega
              unfold stPay stGet; rw [e]; simp only [if_true]; exact deal_none _ _ _ _⟩)
            clear hk0
            go_upto_region 10 with fail
            go_wp2_with (first
              | refine wpList_load_lit 65 p HVT.out.row Try.underlying65 rfl sz65 (by exact rfl) ?_
              | (go_at_call 34; (with_reducible refine HFI.out.mono ?_); rintro e w9 ⟨rfl, hb9⟩; have HB9 := Lib.hid hb9; have HRS := Lib.hid (HVT.out.kept hb9).res; clear hb9)
              | ((with_reducible refine at_store_op ?_); refine wpList_store_lit 27 w.heap.size 0 (dlA none 0 none 0 0 0 0) (.agg (dlA none 0 none 0 0 0 0)) HRS.out sz27 (Nat.le_of_ble_eq_true rfl) rfl rfl ?_ ?_ ?_; exact rfl; exact rfl; intro w4 hp4; have HP := Lib.hid hp4; clear hp4))
            have hbw : Below w.heap.size w w9 := HVT.out.bel.trans (HB9.out.mono HVT.out.bel.size)
            exact bodyPost_ret (results_row_one Try.results15 _ _ w.heap.size 27 _ _ _ rfl HP.out.at' Try.underlying27 rfl sz27) rfl ⟨_, rfl, HCL.out _, HP.out.below hbw hbw.size (Nat.le_refl _)⟩
          · have HFI := Lib.hid (first_any xs.length ys.length km (lq ys (db km)) (lq xs (da km)) da db aa ba ca cb ga gb k wc (by omega) (by have := HKM.out; omega) (by have := HKM.out; omega) hna hnb HVT.out.ra HVT.out.rb)
            have HCL := Lib.hid (show ∀ W v, DealV km da db (lq ys (db km)) (lq xs (da km)) w.heap.size W v → StrictA xs ys w.heap.size W v from fun W v h => ⟨da, db, k, HZA.out, HZB.out, HK.out, by
              have e : stN xs ys da db k = km := by unfold stN; rw [HOK.out, if_neg (by have := HKM.out.2.1; omega)]; simp only [Bool.false_eq_true, if_false]; have := HKM.out.1; omega
              unfold stPay stGet; rw [e, if_neg hk0, if_neg hk0, HOK.out]; simp only [Bool.false_eq_true, if_false]; rw [← HKM.out.1]; exact h⟩)
            clear hk0
            generalize lq ys (db km) = vb at *
            generalize lq xs (da km) = va at *
            go_upto_region 10 with fail
            go_wp2_with (first
              | refine wpList_load_lit 65 p HVT.out.row Try.underlying65 rfl sz65 (by exact rfl) ?_
              | (go_at_call 34; (with_reducible refine HFI.out.mono ?_); rintro e w9 ⟨v9, rfl, hd9, hb9⟩; have HD9 := Lib.hid hd9; have HB9 := Lib.hid hb9; have HRS := Lib.hid (HVT.out.kept hb9).res; obtain ⟨a1, c1, a2, c2, M, rfl, _⟩ := hd9; clear hb9)
              | ((with_reducible refine at_store_op ?_); refine wpList_store_lit 27 w.heap.size 0 (dlA a1 c1 a2 c2 km vb va) (.agg (dlA a1 c1 a2 c2 km vb va)) HRS.out sz27 (Nat.le_of_ble_eq_true rfl) rfl rfl ?_ ?_ ?_; exact rfl; exact rfl; intro w4 hp4; have HP := Lib.hid hp4; clear hp4))
            have hbw : Below w.heap.size w w9 := HVT.out.bel.trans (HB9.out.mono HVT.out.bel.size)
            exact bodyPost_ret (results_row_one Try.results15 _ _ w.heap.size 27 _ _ _ rfl HP.out.at' Try.underlying27 rfl sz27) rfl ⟨_, rfl, HCL.out _ _ ((HD9.out.kept (HP.out.only.mono (fun k hk => by have := lt_row HVT.out.res; omega))).base HVT.out.bel.size), HP.out.below hbw hbw.size (Nat.le_refl _)⟩
      · have t2 : decide ((k : Int) < (ys.length : Int)) = false := decide_eq_false (by omega)
        have t2n : decide (k < ys.length) = false := decide_eq_false c2
        have HOK := Lib.hid (show stOK xs ys da db k = false by unfold stOK; rw [t2n]; simp)
        have HVT := HV
        clear c1 c2 HV z4
        have z4 := HVT.out.cell
        by_cases hk0 : km = 0
        · have HFI := Lib.hid (show Calls Try.prog 34 #[.agg (bkA aa ca xs.length ba cb ys.length ga gb k), .int .i64 km, .int .u64 (lq ys (db km)), .int .u64 (lq xs (da km))] V3 fun r w' => r = .returned (.agg (dlA none 0 none 0 0 0 0)) ∧ Below (World.heap V3).size V3 w' by rw [hk0]; exact first_zero xs.length ys.length _ _ aa ba ca cb ga gb k _)
          have HCL := Lib.hid (show ∀ W, StrictA xs ys w.heap.size W (.agg (dlA none 0 none 0 0 0 0)) from fun W => ⟨da, db, k, HZA.out, HZB.out, HK.out, by
            have e : stN xs ys da db k = 0 := by unfold stN; rw [HOK.out, if_neg (by have := HKM.out.2.1; omega)]; simp only [Bool.false_eq_true, if_false]; have := HKM.out.1; omega
            unfold stPay stGet; rw [e]; simp only [if_true]; exact deal_none _ _ _ _⟩)
          clear hk0
          go_upto_region 10 with fail
          go_wp2_with (first
            | refine wpList_load_lit 65 p HVT.out.row Try.underlying65 rfl sz65 (by exact rfl) ?_
            | (go_at_call 34; (with_reducible refine HFI.out.mono ?_); rintro e w9 ⟨rfl, hb9⟩; have HB9 := Lib.hid hb9; have HRS := Lib.hid (HVT.out.kept hb9).res; clear hb9)
            | ((with_reducible refine at_store_op ?_); refine wpList_store_lit 27 w.heap.size 0 (dlA none 0 none 0 0 0 0) (.agg (dlA none 0 none 0 0 0 0)) HRS.out sz27 (Nat.le_of_ble_eq_true rfl) rfl rfl ?_ ?_ ?_; exact rfl; exact rfl; intro w4 hp4; have HP := Lib.hid hp4; clear hp4))
          have hbw : Below w.heap.size w w9 := HVT.out.bel.trans (HB9.out.mono HVT.out.bel.size)
          exact bodyPost_ret (results_row_one Try.results15 _ _ w.heap.size 27 _ _ _ rfl HP.out.at' Try.underlying27 rfl sz27) rfl ⟨_, rfl, HCL.out _, HP.out.below hbw hbw.size (Nat.le_refl _)⟩
        · have HFI := Lib.hid (first_any xs.length ys.length km (lq ys (db km)) (lq xs (da km)) da db aa ba ca cb ga gb k V3 (by omega) (by have := HKM.out; omega) (by have := HKM.out; omega) hna hnb HVT.out.ra HVT.out.rb)
          have HCL := Lib.hid (show ∀ W v, DealV km da db (lq ys (db km)) (lq xs (da km)) w.heap.size W v → StrictA xs ys w.heap.size W v from fun W v h => ⟨da, db, k, HZA.out, HZB.out, HK.out, by
            have e : stN xs ys da db k = km := by unfold stN; rw [HOK.out, if_neg (by have := HKM.out.2.1; omega)]; simp only [Bool.false_eq_true, if_false]; have := HKM.out.1; omega
            unfold stPay stGet; rw [e, if_neg hk0, if_neg hk0, HOK.out]; simp only [Bool.false_eq_true, if_false]; rw [← HKM.out.1]; exact h⟩)
          clear hk0
          generalize lq ys (db km) = vb at *
          generalize lq xs (da km) = va at *
          go_upto_region 10 with fail
          go_wp2_with (first
            | refine wpList_load_lit 65 p HVT.out.row Try.underlying65 rfl sz65 (by exact rfl) ?_
            | (go_at_call 34; (with_reducible refine HFI.out.mono ?_); rintro e w9 ⟨v9, rfl, hd9, hb9⟩; have HD9 := Lib.hid hd9; have HB9 := Lib.hid hb9; have HRS := Lib.hid (HVT.out.kept hb9).res; obtain ⟨a1, c1, a2, c2, M, rfl, _⟩ := hd9; clear hb9)
            | ((with_reducible refine at_store_op ?_); refine wpList_store_lit 27 w.heap.size 0 (dlA a1 c1 a2 c2 km vb va) (.agg (dlA a1 c1 a2 c2 km vb va)) HRS.out sz27 (Nat.le_of_ble_eq_true rfl) rfl rfl ?_ ?_ ?_; exact rfl; exact rfl; intro w4 hp4; have HP := Lib.hid hp4; clear hp4))
          have hbw : Below w.heap.size w w9 := HVT.out.bel.trans (HB9.out.mono HVT.out.bel.size)
          exact bodyPost_ret (results_row_one Try.results15 _ _ w.heap.size 27 _ _ _ rfl HP.out.at' Try.underlying27 rfl sz27) rfl ⟨_, rfl, HCL.out _ _ ((HD9.out.kept (HP.out.only.mono (fun k hk => by have := lt_row HVT.out.res; omega))).base HVT.out.bel.size), HP.out.below hbw hbw.size (Nat.le_refl _)⟩
    · have t1 : decide ((k : Int) < (xs.length : Int)) = false := decide_eq_false (by omega)
      have t1n : decide (k < xs.length) = false := decide_eq_false c1
      have HOK := Lib.hid (show stOK xs ys da db k = false by unfold stOK; rw [t1n]; simp)
      have HVT := HV
      clear c1 HV z4
      have z4 := HVT.out.cell
      by_cases hk0 : km = 0
      · have HFI := Lib.hid (show Calls Try.prog 34 #[.agg (bkA aa ca xs.length ba cb ys.length ga gb k), .int .i64 km, .int .u64 (lq ys (db km)), .int .u64 (lq xs (da km))] V3 fun r w' => r = .returned (.agg (dlA none 0 none 0 0 0 0)) ∧ Below (World.heap V3).size V3 w' by rw [hk0]; exact first_zero xs.length ys.length _ _ aa ba ca cb ga gb k _)
        have HCL := Lib.hid (show ∀ W, StrictA xs ys w.heap.size W (.agg (dlA none 0 none 0 0 0 0)) from fun W => ⟨da, db, k, HZA.out, HZB.out, HK.out, by
          have e : stN xs ys da db k = 0 := by unfold stN; rw [HOK.out, if_neg (by have := HKM.out.2.1; omega)]; simp only [Bool.false_eq_true, if_false]; have := HKM.out.1; omega
          unfold stPay stGet; rw [e]; simp only [if_true]; exact deal_none _ _ _ _⟩)
        clear hk0
        go_upto_region 10 with fail
        go_wp2_with (first
          | refine wpList_load_lit 65 p HVT.out.row Try.underlying65 rfl sz65 (by exact rfl) ?_
          | (go_at_call 34; (with_reducible refine HFI.out.mono ?_); rintro e w9 ⟨rfl, hb9⟩; have HB9 := Lib.hid hb9; have HRS := Lib.hid (HVT.out.kept hb9).res; clear hb9)
          | ((with_reducible refine at_store_op ?_); refine wpList_store_lit 27 w.heap.size 0 (dlA none 0 none 0 0 0 0) (.agg (dlA none 0 none 0 0 0 0)) HRS.out sz27 (Nat.le_of_ble_eq_true rfl) rfl rfl ?_ ?_ ?_; exact rfl; exact rfl; intro w4 hp4; have HP := Lib.hid hp4; clear hp4))
        have hbw : Below w.heap.size w w9 := HVT.out.bel.trans (HB9.out.mono HVT.out.bel.size)
        exact bodyPost_ret (results_row_one Try.results15 _ _ w.heap.size 27 _ _ _ rfl HP.out.at' Try.underlying27 rfl sz27) rfl ⟨_, rfl, HCL.out _, HP.out.below hbw hbw.size (Nat.le_refl _)⟩
      · have HFI := Lib.hid (first_any xs.length ys.length km (lq ys (db km)) (lq xs (da km)) da db aa ba ca cb ga gb k V3 (by omega) (by have := HKM.out; omega) (by have := HKM.out; omega) hna hnb HVT.out.ra HVT.out.rb)
        have HCL := Lib.hid (show ∀ W v, DealV km da db (lq ys (db km)) (lq xs (da km)) w.heap.size W v → StrictA xs ys w.heap.size W v from fun W v h => ⟨da, db, k, HZA.out, HZB.out, HK.out, by
          have e : stN xs ys da db k = km := by unfold stN; rw [HOK.out, if_neg (by have := HKM.out.2.1; omega)]; simp only [Bool.false_eq_true, if_false]; have := HKM.out.1; omega
          unfold stPay stGet; rw [e, if_neg hk0, if_neg hk0, HOK.out]; simp only [Bool.false_eq_true, if_false]; rw [← HKM.out.1]; exact h⟩)
        clear hk0
        generalize lq ys (db km) = vb at *
        generalize lq xs (da km) = va at *
        go_upto_region 10 with fail
        go_wp2_with (first
          | refine wpList_load_lit 65 p HVT.out.row Try.underlying65 rfl sz65 (by exact rfl) ?_
          | (go_at_call 34; (with_reducible refine HFI.out.mono ?_); rintro e w9 ⟨v9, rfl, hd9, hb9⟩; have HD9 := Lib.hid hd9; have HB9 := Lib.hid hb9; have HRS := Lib.hid (HVT.out.kept hb9).res; obtain ⟨a1, c1, a2, c2, M, rfl, _⟩ := hd9; clear hb9)
          | ((with_reducible refine at_store_op ?_); refine wpList_store_lit 27 w.heap.size 0 (dlA a1 c1 a2 c2 km vb va) (.agg (dlA a1 c1 a2 c2 km vb va)) HRS.out sz27 (Nat.le_of_ble_eq_true rfl) rfl rfl ?_ ?_ ?_; exact rfl; exact rfl; intro w4 hp4; have HP := Lib.hid hp4; clear hp4))
        have hbw : Below w.heap.size w w9 := HVT.out.bel.trans (HB9.out.mono HVT.out.bel.size)
        exact bodyPost_ret (results_row_one Try.results15 _ _ w.heap.size 27 _ _ _ rfl HP.out.at' Try.underlying27 rfl sz27) rfl ⟨_, rfl, HCL.out _ _ ((HD9.out.kept (HP.out.only.mono (fun k hk => by have := lt_row HVT.out.res; omega))).base HVT.out.bel.size), HP.out.below hbw hbw.size (Nat.le_refl _)⟩
end Go.Proofs.Ytbggibdldadpiaa
