/-
  Layer 19: the document's K, Middle, first.
-/
import Derived.Test.YtbggibdldadpiaaIa
namespace Go.Proofs.Ytbggibdldadpiaa
open Go.RowKit Go.K
open Go.Stab (swp rot Srt Prm Out)
set_option linter.unusedVariables false
set_option linter.unusedSimpArgs false
theorem KV.at_iff {xs ys : List (BitVec 64)} {da db : Nat → Nat} {k : Nat} (ha : RankZ true xs da) (hb : RankZ false ys db) (hk : KV xs ys da db k) (i : Nat) (h1 : i < xs.length) (h2 : i < ys.length) : lq xs (da i) ≤ lq ys (db i) ↔ i < k := by
  constructor
  · intro h
    by_cases c : i < k
    · exact c
    · exfalso
      have h3 := rank_up ha (show k ≤ i by omega) h1
      have h4 := rank_down hb (show k ≤ i by omega) h2
      exact hk.2.2.2 (by omega) (by omega) (by omega)
  · exact hk.2.2.1 i
set_option maxRecDepth 100000 in
set_option maxHeartbeats 1000000 in
theorem rk_any (xs ys : List (BitVec 64)) (da db : Nat → Nat) (k : Nat) (aa ba : Option Addr) (ca cb : Nat) (w : World) (hza : RankZ true xs da) (hzb : RankZ false ys db) (hk : KV xs ys da db k) (hna : xs.length ≤ 17592186043904) (hnb : ys.length ≤ 17592186043904) (ha : Sl w aa (vQ xs)) (hb : Sl w ba (vQ ys)) :
    Calls Try.prog 43 #[.slice aa xs.length ca, .slice ba ys.length cb] w fun r w' => r = .returned (.int .i64 k) ∧ Below w.heap.size w w' := by
  have HRA := Lib.hid (show Calls Try.prog 44 #[.slice aa xs.length ca, .bool false] w fun r w' => ∃ (g : Nat), r = .returned (.slice (some ⟨g, 0, none⟩) xs.length xs.length) ∧ w.heap.size ≤ g ∧ Rw w' g xs.length da ∧ Below w.heap.size w w' from rrank_any true xs da hza aa ca w hna ha)
  have HRB := Lib.hid (show ∀ V, Below w.heap.size w V → Calls Try.prog 44 #[.slice ba ys.length cb, .bool true] V fun r w' => ∃ (g : Nat), r = .returned (.slice (some ⟨g, 0, none⟩) ys.length ys.length) ∧ V.heap.size ≤ g ∧ Rw w' g ys.length db ∧ Below V.heap.size V w' from fun V h => rrank_any false ys db hzb ba cb V hnb (hb.kept h))
  have HA := Lib.hid ha
  have HB := Lib.hid hb
  have HIF := Lib.hid (KV.at_iff hza hzb hk)
  have HK := Lib.hid hk
  have HZA := Lib.hid hza
  have HZB := Lib.hid hzb
  clear ha hb hk hza hzb
  go_enter Try.func43, Try.ntmps43
  go_wp2_with (first
    | (go_at_call 44; (with_reducible refine HRA.out.mono ?_); rintro e w1 ⟨ga, rfl, hga, hra, hb1⟩; have HR1 := Lib.hid hra; have HB1 := Lib.hid hb1; clear hga hra hb1)
    | (go_at_call 44; (with_reducible refine (HRB.out _ HB1.out).mono ?_); rintro e w2 ⟨gb, rfl, hgb, hrb, hb2⟩; have HB2 := Lib.hid (HB1.out.trans (hb2.mono HB1.out.size)); have HR := Lib.hid (show Rw w2 ga xs.length da ∧ Rw w2 gb ys.length db from ⟨HR1.out.kept hb2, hrb⟩); clear hgb hrb hb2))
  clear HR1 HB1 HRA HRB
  go_loopw [7, 8] (fun x7 x8 V => ∃ j m : Nat, 0 < j ∧ j ≤ xs.length + 1 ∧ j ≤ ys.length + 1 ∧ x7 = .int .i64 m ∧ x8 = .int .i64 j ∧ m = min (j - 1) k ∧ Qt w2 V) (fun _ x8 _ => xs.length + 1 - (intOf x8).toNat)
  case atStart => exact ⟨1, 0, by omega, by omega, by omega, rfl, rfl, by omega, Qt.refl _⟩
  case round =>
    obtain ⟨j, m, hj0, hj1, hj2, rfl, rfl, hm, hq⟩ := hrel
    have HQ := Lib.hid hq
    have HM := Lib.hid (show m = min (j - 1) k ∧ 0 < j from ⟨hm, hj0⟩)
    clear hq hm
    by_cases c1 : j ≤ xs.length
    · have t1 : decide ((j : Int) ≤ (xs.length : Int)) = true := decide_eq_true (by omega)
      have t1n : decide (j ≤ xs.length) = true := decide_eq_true c1
      by_cases c2 : j ≤ ys.length
      · have t2 : decide ((j : Int) ≤ (ys.length : Int)) = true := decide_eq_true (by omega)
        have t2n : decide (j ≤ ys.length) = true := decide_eq_true c2
        obtain ⟨jm, hjm⟩ : ∃ jm, jm = j - 1 := ⟨_, rfl⟩
        have w1 : IntKind.i64.wrap ((j : Int) - 1) = (jm : Int) := by rw [IntKind.wrap_i64]; omega
        obtain ⟨j1, hj1e⟩ : ∃ j1, j1 = j + 1 := ⟨_, rfl⟩
        have w2' : IntKind.i64.wrap ((j : Int) + 1) = (j1 : Int) := by rw [IntKind.wrap_i64]; omega
        have la : jm < xs.length := by omega
        have lb : jm < ys.length := by omega
        have l1 : (jm : Int) < (xs.length : Int) := by omega
        have l2 : (jm : Int) < (ys.length : Int) := by omega
        have l3 : (da jm : Int) < (xs.length : Int) := by have := rankz_lt HZA.out la; omega
        have l4 : (db jm : Int) < (ys.length : Int) := by have := rankz_lt HZB.out lb; omega
        obtain ⟨b1, o1, rfl, z1⟩ := vQ_at (HA.out.kept (HB2.out.trans (HQ.out.below _))) (da jm) (rankz_lt HZA.out la)
        obtain ⟨b2, o2, rfl, z2⟩ := vQ_at (HB.out.kept (HB2.out.trans (HQ.out.below _))) (db jm) (rankz_lt HZB.out lb)
        have z3 := (HQ.out.cell ⟨ga, jm, none⟩).trans (HR.out.1.cell jm la)
        have z4 := (HQ.out.cell ⟨gb, jm, none⟩).trans (HR.out.2.cell jm lb)
        have hif := HIF.out jm la lb
        have HJ := Lib.hid (show jm = j - 1 ∧ j1 = j + 1 ∧ j ≤ xs.length ∧ j ≤ ys.length from ⟨hjm, hj1e, c1, c2⟩)
        by_cases c3 : lq xs (da jm) ≤ lq ys (db jm)
        · have t3 : decide ((lq xs (da jm) : Int) ≤ (lq ys (db jm) : Int)) = true := decide_eq_true (by omega)
          have t3n : decide (lq xs (da jm) ≤ lq ys (db jm)) = true := decide_eq_true c3
          have HNX := Lib.hid (show j = min (j1 - 1) k by have := hif.1 c3; omega)
          clear c1 c2 c3 hif la lb hjm hj1e hj1 hj2 hj0
          generalize lq xs (da jm) = va at *
          generalize lq ys (db jm) = vb at *
          generalize da jm = dx at *
          generalize db jm = dy at *
          go_wp2
          go_quiet (fail)
          go_wp2
          go_roundw
          case rel => exact ⟨j1, j, by have := HJ.out; omega, by have := HJ.out; omega, by have := HJ.out; omega, rfl, rfl, HNX.out, HQ.out.trans (Qt.drewN _ _)⟩
          case measure => have := HJ.out; simp [intOf]; omega
        · have t3 : decide ((lq xs (da jm) : Int) ≤ (lq ys (db jm) : Int)) = false := decide_eq_false (by omega)
          have t3n : decide (lq xs (da jm) ≤ lq ys (db jm)) = false := decide_eq_false c3
          have HNX := Lib.hid (show m = min (j1 - 1) k by have := HM.out; have := fun h => c3 (hif.2 h); omega)
          clear c1 c2 c3 hif la lb hjm hj1e hj1 hj2 hj0
          generalize lq xs (da jm) = va at *
          generalize lq ys (db jm) = vb at *
          generalize da jm = dx at *
          generalize db jm = dy at *
          go_wp2
          go_quiet (fail)
          go_wp2
          go_roundw
          case rel => exact ⟨j1, m, by have := HJ.out; omega, by have := HJ.out; omega, by have := HJ.out; omega, rfl, rfl, HNX.out, HQ.out.trans (Qt.drewN _ _)⟩
          case measure => have := HJ.out; simp [intOf]; omega
      · have t2 : decide ((j : Int) ≤ (ys.length : Int)) = false := decide_eq_false (by omega)
        have t2n : decide (j ≤ ys.length) = false := decide_eq_false c2
        have HE := Lib.hid (show m = k by have := HM.out; have := HK.out.2.1; omega)
        clear c1 c2 hj1 hj2 hj0
        go_wp2
        go_ret
        exact ⟨by rw [HE.out]; rfl, HB2.out.trans (HQ.out.below _)⟩
    · have t1 : decide ((j : Int) ≤ (xs.length : Int)) = false := decide_eq_false (by omega)
      have t1n : decide (j ≤ xs.length) = false := decide_eq_false c1
      have HE := Lib.hid (show m = k by have := HM.out; have := HK.out.1; omega)
      clear c1 hj1 hj2 hj0
      go_wp2
      go_ret
      exact ⟨by rw [HE.out]; rfl, HB2.out.trans (HQ.out.below _)⟩
def midV (x y : Nat) : Nat := min x y + (max x y - min x y) / 2
theorem rmiddle_any (x y : Nat) (w : World) (hx : x < 18446744073709551616) (hy : y < 18446744073709551616) : Calls Try.prog 45 #[.int .u64 x, .int .u64 y] w fun r w' => r = .returned (.int .u64 (midV x y : Nat)) ∧ w = w' := by
  obtain ⟨lo, hlo⟩ : ∃ lo, lo = min x y := ⟨_, rfl⟩
  obtain ⟨hi, hhi⟩ : ∃ hi, hi = max x y := ⟨_, rfl⟩
  obtain ⟨d, hd⟩ : ∃ d, d = hi - lo := ⟨_, rfl⟩
  obtain ⟨h, hh⟩ : ∃ h, h = d / 2 := ⟨_, rfl⟩
  have e : midV x y = lo + h := by unfold midV; rw [← hlo, ← hhi, ← hd, ← hh]
  rw [e]
  have w1 : IntKind.u64.wrap ((hi : Int) - (lo : Int)) = (d : Int) := by rw [IntKind.wrap_u64]; omega
  have w2 : (d : Int) / 2 = (h : Int) := by omega
  have w3 : IntKind.u64.wrap ((lo : Int) + (h : Int)) = ((lo + h : Nat) : Int) := by rw [IntKind.wrap_u64]; omega
  have w4 : IntKind.u64.wrap (h : Int) = (h : Int) := by rw [IntKind.wrap_u64]; omega
  obtain ⟨s, hs⟩ : ∃ s, s = lo + h := ⟨_, rfl⟩
  rw [← hs] at w3 ⊢
  clear hd hh e hs hx hy
  by_cases c : y < x
  · have t : decide ((x : Int) > (y : Int)) = true := decide_eq_true (by omega)
    have t2 : decide ((y : Int) < (x : Int)) = true := decide_eq_true (by omega)
    have tn : decide (y < x) = true := decide_eq_true c
    have e1 : lo = y := by omega
    have e2 : hi = x := by omega
    subst e1 e2
    clear hlo hhi c
    go_enter Try.func45, Try.ntmps45
    go_wp2
    go_ret
    exact ⟨rfl, rfl⟩
  · have t : decide ((x : Int) > (y : Int)) = false := decide_eq_false (by omega)
    have t2 : decide ((y : Int) < (x : Int)) = false := decide_eq_false (by omega)
    have tn : decide (y < x) = false := decide_eq_false c
    have e1 : lo = x := by omega
    have e2 : hi = y := by omega
    subst e1 e2
    clear hlo hhi c
    go_enter Try.func45, Try.ntmps45
    go_wp2
    go_ret
    exact ⟨rfl, rfl⟩
theorem sz44 : (Try.prog.info? 44).map (·.size) = some 4 := by kernel_rfl
/-- A deal of the document: its lists, wherever they lie. -/
def RDealV (n : Nat) (da db : Nat → Nat) (pay get B : Nat) (W : World) (v : Value) : Prop := ∃ a1 c1 a2 c2, v = .agg (dlA a1 c1 a2 c2 n pay get) ∧ Sl W a1 (rowN da n) ∧ Sl W a2 (rowN db n) ∧ (∀ x, a1 = some x → B ≤ x.block) ∧ (∀ x, a2 = some x → B ≤ x.block)
theorem rfirst_zero (xs ys : List (BitVec 64)) (pay get : Nat) (da db : Nat → Nat) (aa ba : Option Addr) (ca cb : Nat) (w : World) :
    Calls Try.prog 46 #[.slice aa xs.length ca, .slice ba ys.length cb, .int .i64 0, .int .u64 pay, .int .u64 get] w fun r w' => ∃ v, r = .returned v ∧ RDealV 0 da db 0 0 w.heap.size w' v ∧ Below w.heap.size w w' := by
  have HB := Lib.hid (((Below.refl w.heap.size w).alloc (Nat.le_refl _) (.cells #[.slice none 0 0, .slice none 0 0, .int .u64 0, .int .u64 0] 44)))
  have HZ := Lib.hid (show (w.alloc (.cells #[.slice none 0 0, .slice none 0 0, .int .u64 0, .int .u64 0] 44)).heap[w.heap.size]? = some (.cells #[.slice none 0 0, .slice none 0 0, .int .u64 0, .int .u64 0] 44) from alloc_at rfl)
  go_enter Try.func46, Try.ntmps46
  go_wp2_with ((with_reducible refine at_store_op ?_); refine wpList_store_lit 44 w.heap.size 0 (dlA none 0 none 0 0 0 0) (.agg (dlA none 0 none 0 0 0 0)) HZ.out sz44 (Nat.le_of_ble_eq_true rfl) rfl rfl ?_ ?_ ?_; exact rfl; exact rfl; intro w4 hp4; have HP := Lib.hid hp4; clear hp4)
  exact bodyPost_ret (results_row_one Try.results46 _ _ w.heap.size 44 _ _ _ rfl HP.out.at' Try.underlying44 rfl sz44) rfl ⟨_, rfl, ⟨none, 0, none, 0, rfl, (fun h => absurd rfl h), (fun h => absurd rfl h), (fun x h => by cases h), (fun x h => by cases h)⟩, HP.out.below HB.out HB.out.size (Nat.le_refl _)⟩
theorem four44 {V : World} {rs : Nat} (v0 v1 v2 v3 u0 u1 u2 u3 : Value) (h : V.heap[rs]? = some (.cells #[u0, u1, u2, u3] 44)) :
    V.cell? ⟨rs, 0, none⟩ = some u0 ∧ V.frozen? ⟨rs, 0, none⟩ = false ∧ (V.setCell ⟨rs, 0, none⟩ v0).cell? ⟨rs, 1, none⟩ = some u1 ∧ (V.setCell ⟨rs, 0, none⟩ v0).frozen? ⟨rs, 1, none⟩ = false ∧
    ((V.setCell ⟨rs, 0, none⟩ v0).setCell ⟨rs, 1, none⟩ v1).cell? ⟨rs, 2, none⟩ = some u2 ∧ ((V.setCell ⟨rs, 0, none⟩ v0).setCell ⟨rs, 1, none⟩ v1).frozen? ⟨rs, 2, none⟩ = false ∧
    (((V.setCell ⟨rs, 0, none⟩ v0).setCell ⟨rs, 1, none⟩ v1).setCell ⟨rs, 2, none⟩ v2).cell? ⟨rs, 3, none⟩ = some u3 ∧ (((V.setCell ⟨rs, 0, none⟩ v0).setCell ⟨rs, 1, none⟩ v1).setCell ⟨rs, 2, none⟩ v2).frozen? ⟨rs, 3, none⟩ = false ∧
    ((((V.setCell ⟨rs, 0, none⟩ v0).setCell ⟨rs, 1, none⟩ v1).setCell ⟨rs, 2, none⟩ v2).setCell ⟨rs, 3, none⟩ v3).heap[rs]? = some (.cells #[v0, v1, v2, v3] 44) := by
  have r1 : (V.setCell ⟨rs, 0, none⟩ v0).heap[rs]? = some (.cells #[v0, u1, u2, u3] 44) := heap_setCell_same _ _ 0 _ _ _ h
  have r2 : ((V.setCell ⟨rs, 0, none⟩ v0).setCell ⟨rs, 1, none⟩ v1).heap[rs]? = some (.cells #[v0, v1, u2, u3] 44) := heap_setCell_same _ _ 1 _ _ _ r1
  have r3 : (((V.setCell ⟨rs, 0, none⟩ v0).setCell ⟨rs, 1, none⟩ v1).setCell ⟨rs, 2, none⟩ v2).heap[rs]? = some (.cells #[v0, v1, v2, u3] 44) := heap_setCell_same _ _ 2 _ _ _ r2
  have r4 : ((((V.setCell ⟨rs, 0, none⟩ v0).setCell ⟨rs, 1, none⟩ v1).setCell ⟨rs, 2, none⟩ v2).setCell ⟨rs, 3, none⟩ v3).heap[rs]? = some (.cells #[v0, v1, v2, v3] 44) := heap_setCell_same _ _ 3 _ _ _ r3
  exact ⟨by rw [cell_of_row _ _ _ _ _ _ h]; rfl, frozen_of_row _ _ 0 _ _ h, by rw [cell_of_row _ _ _ _ _ _ r1]; rfl, frozen_of_row _ _ 1 _ _ r1, by rw [cell_of_row _ _ _ _ _ _ r2]; rfl, frozen_of_row _ _ 2 _ _ r2, by rw [cell_of_row _ _ _ _ _ _ r3]; rfl, frozen_of_row _ _ 3 _ _ r3, r4⟩
set_option maxRecDepth 100000 in
set_option maxHeartbeats 4000000 in
theorem rfirst_any (xs ys : List (BitVec 64)) (n pay get : Nat) (da db : Nat → Nat) (hza : RankZ true xs da) (hzb : RankZ false ys db) (aa ba : Option Addr) (ca cb : Nat) (w : World) (h0 : 0 < n) (hna : n ≤ xs.length) (hnb : n ≤ ys.length) (hma : xs.length ≤ 17592186043904) (hmb : ys.length ≤ 17592186043904) (ha : Sl w aa (vQ xs)) (hb : Sl w ba (vQ ys)) :
    Calls Try.prog 46 #[.slice aa xs.length ca, .slice ba ys.length cb, .int .i64 n, .int .u64 pay, .int .u64 get] w fun r w' => ∃ v, r = .returned v ∧ RDealV n da db pay get w.heap.size w' v ∧ Below w.heap.size w w' := by
  have t0 : decide ((n : Int) < 1) = false := decide_eq_false (by omega)
  have ia : (n : Int) ≤ (xs.length : Int) := by omega
  have ib : (n : Int) ≤ (ys.length : Int) := by omega
  obtain ⟨w1, hw1⟩ : ∃ w1, w1 = w.alloc (.cells #[.slice none 0 0, .slice none 0 0, .int .u64 0, .int .u64 0] 44) := ⟨_, rfl⟩
  have HRES := Lib.hid (show w1.heap[w.heap.size]? = some (.cells #[.slice none 0 0, .slice none 0 0, .int .u64 0, .int .u64 0] 44) by rw [hw1]; exact alloc_at rfl)
  have HB := Lib.hid (show Below w.heap.size w w1 by rw [hw1]; exact (Below.refl _ _).alloc (Nat.le_refl _) _)
  have HSZ := Lib.hid (show w1.heap.size = w.heap.size + 1 by rw [hw1]; simp)
  have HW1 := Lib.hid hw1
  have HCA := Lib.hid (show ∀ V, Below w1.heap.size w1 V → Calls Try.prog 44 #[.slice aa xs.length ca, .bool false] V fun r w' => ∃ (g : Nat), r = .returned (.slice (some ⟨g, 0, none⟩) xs.length xs.length) ∧ V.heap.size ≤ g ∧ Rw w' g xs.length da ∧ Below V.heap.size V w' from fun V h => rrank_any true xs da hza aa ca V hma ((ha.kept HB.out).kept h))
  have HCB := Lib.hid (show ∀ V, Below w1.heap.size w1 V → Calls Try.prog 44 #[.slice ba ys.length cb, .bool true] V fun r w' => ∃ (g : Nat), r = .returned (.slice (some ⟨g, 0, none⟩) ys.length ys.length) ∧ V.heap.size ≤ g ∧ Rw w' g ys.length db ∧ Below V.heap.size V w' from fun V h => rrank_any false ys db hzb ba cb V hmb ((hb.kept HB.out).kept h))
  clear ha hb hw1
  go_enter Try.func46, Try.ntmps46
  go_upto_region 3 with fail
  rw [← HW1.out]
  have hAt : Below w1.heap.size w1 w1.drew := (Qt.drewN w1 1).below _
  go_region_held3 (fun V => True) (exact trivial)
    ((first
      | (go_at_call 44; (with_reducible refine (HCA.out _ hAt).mono ?_); rintro e w2 ⟨ga, rfl, hga, hra, hb2⟩; have hAt2 := hAt.trans (hb2.mono hAt.size))
      | (go_at_call 44; (with_reducible refine (HCB.out _ hAt2).mono ?_); rintro e w3 ⟨gb, rfl, hgb, hrb, hb3⟩; have hAt3 := hAt2.trans (hb3.mono hAt2.size); have hra3 := hra.kept hb3; obtain ⟨x0, y0, x1, y1, x2, y2, x3, y3, hrow4⟩ := four44 (.slice (some ⟨ga, 0, none⟩) n xs.length) (.slice (some ⟨gb, 0, none⟩) n ys.length) (.int .u64 pay) (.int .u64 get) _ _ _ _ (row_kept HRES.out hAt3))))
  have hgr : w3.grownBy ((((w3.setCell ⟨w.heap.size, 0, none⟩ (.slice (some ⟨ga, 0, none⟩) n xs.length)).setCell ⟨w.heap.size, 1, none⟩ (.slice (some ⟨gb, 0, none⟩) n ys.length)).setCell ⟨w.heap.size, 2, none⟩ (.int .u64 pay)).setCell ⟨w.heap.size, 3, none⟩ (.int .u64 get)) (some (w.heap.size)) :=
    grown_set (grown_set (grown_set (grown_set (grown_refl w3 (some (w.heap.size))) 0 _) 1 _) 2 _) 3 _
  generalize (((w3.setCell ⟨w.heap.size, 0, none⟩ (.slice (some ⟨ga, 0, none⟩) n xs.length)).setCell ⟨w.heap.size, 1, none⟩ (.slice (some ⟨gb, 0, none⟩) n ys.length)).setCell ⟨w.heap.size, 2, none⟩ (.int .u64 pay)).setCell ⟨w.heap.size, 3, none⟩ (.int .u64 get) = W4 at *
  have hon := Only.of_grown (S := fun k => k = w.heap.size) hgr (fun k hk => by injection hk with e; exact e.symm)
  have hs0 := HSZ.out
  have hs1 := hAt.size
  have hs2 := hb2.size
  have hO1 : Rw W4 ga xs.length da := hon.row hra3 (by show ¬ (ga = w.heap.size); omega)
  have hO2 : Rw W4 gb ys.length db := hon.row hrb (by show ¬ (gb = w.heap.size); omega)
  have hBel : Below w.heap.size w W4 := (HB.out.trans (hAt3.mono (by omega))).trans (hon.below (by have := hb3.size; omega) (fun k hk => by omega))
  have HF := Lib.hid (show RDealV n da db pay get w.heap.size W4 (.agg (dlA (some ⟨ga, 0, none⟩) xs.length (some ⟨gb, 0, none⟩) ys.length n pay get)) from ⟨_, _, _, _, rfl, hO1.sl n hna, hO2.sl n hnb, (fun x h => by injection h with h; rw [← h]; show w.heap.size ≤ ga; omega), (fun x h => by injection h with h; rw [← h]; show w.heap.size ≤ gb; omega)⟩)
  have HR4 := Lib.hid hrow4
  have HBL := Lib.hid hBel
  clear hgr hon hO1 hO2 hBel hrow4 hb2 hb3 hAt hAt2 hAt3 x0 y0 x1 y1 x2 y2 x3 y3 hra hrb hra3 hs0 hs1 hs2 hga hgb
  go_wp2
  exact bodyPost_ret (results_row_one Try.results46 _ _ (w.heap.size) 44 _ _ _ rfl HR4.out Try.underlying44 rfl sz44) rfl ⟨_, rfl, HF.out, HBL.out⟩
end Go.Proofs.Ytbggibdldadpiaa
