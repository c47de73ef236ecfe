/-
  Layer 19: the book: asks and bids in rank, and how many could deal.
-/
import Derived.Test.YtbggibdldadpiaaHa
namespace Go.Proofs.Ytbggibdldadpiaa
open Go.RowKit Go.K
open Go.Stab (swp rot Srt Prm Out)
set_option linter.unusedVariables false
set_option linter.unusedSimpArgs false
theorem sz65 : (Try.prog.info? 65).map (·.size) = some 5 := by kernel_rfl
theorem sz24 : (Try.prog.info? 24).map (·.size) = some 1 := by kernel_rfl
theorem rankz_lt {up : Bool} {l : List (BitVec 64)} {d : Nat → Nat} (h : RankZ up l d) {p : Nat} (hp : p < l.length) : d p < l.length := by
  obtain ⟨k, _, k2, k3⟩ := h.2.1.mem (Nat.zero_le p) hp
  rw [k3]; exact k2
/-- A book as it lies in its five cells. -/
def bkA (aa : Option Addr) (ca na : Nat) (ba : Option Addr) (cb nb ga gb : Nat) (k : Nat) : Array Value := #[.slice aa na ca, .slice ba nb cb, .slice (some ⟨ga, 0, none⟩) na na, .slice (some ⟨gb, 0, none⟩) nb nb, .int .i64 k]
set_option maxRecDepth 100000 in
set_option maxHeartbeats 1000000 in
theorem ask_any (l : List (BitVec 64)) (d : Nat → Nat) (aa ba : Option Addr) (ca cb m ga gb k i : Nat) (w : World) (hi : i < l.length) (hd : d i < l.length) (hs : Sl w aa (vQ l)) (hr : Rw w ga l.length d) :
    Calls Try.prog 31 #[.agg (bkA aa ca l.length ba cb m ga gb k), .int .i64 i] w fun r w' => r = .returned (.int .u64 (lq l (d i))) ∧ Below w.heap.size w w' := by
  obtain ⟨b, o, rfl, z1⟩ := vQ_at hs (d i) hd
  have z2 := hr.cell i hi
  have i1 : (i : Int) < (l.length : Int) := by omega
  have i2 : (d i : Int) < (l.length : Int) := by omega
  obtain ⟨W1, hW1⟩ : ∃ W1, W1 = w.alloc (.cells (bkA (some ⟨b, o, none⟩) ca l.length ba cb m ga gb k) 65) := ⟨_, rfl⟩
  have HB := Lib.hid (show Below w.heap.size w W1 by rw [hW1]; exact (Below.refl w.heap.size w).alloc (Nat.le_refl _) _)
  have k1 : W1.cell? ⟨b, o + d i, none⟩ = some (.int .u64 (lq l (d i))) := (HB.out.cell (World.block_lt_of_cell? w _ z1)).trans z1
  have k2 : W1.cell? ⟨ga, i, none⟩ = some (.int .i64 (d i)) := (HB.out.cell (World.block_lt_of_cell? w _ z2)).trans z2
  have hrow : W1.heap[w.heap.size]? = some (.cells (bkA (some ⟨b, o, none⟩) ca l.length ba cb m ga gb k) 65) := by rw [hW1]; exact alloc_at rfl
  have k3 : W1.cell? ⟨w.heap.size, 0, none⟩ = some (.slice (some ⟨b, o, none⟩) l.length ca) := by rw [cell_of_row _ _ _ _ _ _ hrow]; rfl
  have k4 : W1.cell? ⟨w.heap.size, 2, none⟩ = some (.slice (some ⟨ga, 0, none⟩) l.length l.length) := by rw [cell_of_row _ _ _ _ _ _ hrow]; rfl
  have HW := Lib.hid hW1
  clear hs hr hi hd z1 z2 hrow hW1
  unfold bkA at *
  generalize lq l (d i) = v at *
  generalize d i = x at *
  go_enter Try.func31, Try.ntmps31
  go_wp2
  rw [← HW.out]
  refine wp_region_inv 10 (fun W => Qt W1 W) (by kernel_rfl) (by kernel_rfl) (fun n => ⟨n, rfl⟩) ?_
  simp only [List.take_succ_cons, List.take_zero]
  iterate 10
    apply wpInv_cons
    · rfl
    · intro Wx hw
      have q1 := (hw.cell ⟨b, o + x, none⟩).trans k1
      have q2 := (hw.cell ⟨ga, i, none⟩).trans k2
      have q3 := (hw.cell ⟨w.heap.size, 0, none⟩).trans k3
      have q4 := (hw.cell ⟨w.heap.size, 2, none⟩).trans k4
      go_simp
      exact ⟨hw, rfl⟩
    simp only [Act.put, List.setIfInBounds_toArray, List.set_cons_zero, List.set_cons_succ]
  refine wpInv_nil fun V3 hV => ?_
  have HV := Lib.hid hV
  clear hV
  simp only [List.drop_succ_cons, List.drop_zero]
  go_wp2
  go_ret
  exact ⟨rfl, HB.out.trans (HV.out.below _)⟩
set_option maxRecDepth 100000 in
set_option maxHeartbeats 1000000 in
theorem bid_any (l : List (BitVec 64)) (d : Nat → Nat) (aa ba : Option Addr) (ca cb m ga gb k i : Nat) (w : World) (hi : i < l.length) (hd : d i < l.length) (hs : Sl w ba (vQ l)) (hr : Rw w gb l.length d) :
    Calls Try.prog 32 #[.agg (bkA aa ca m ba cb l.length ga gb k), .int .i64 i] w fun r w' => r = .returned (.int .u64 (lq l (d i))) ∧ Below w.heap.size w w' := by
  obtain ⟨b, o, rfl, z1⟩ := vQ_at hs (d i) hd
  have z2 := hr.cell i hi
  have i1 : (i : Int) < (l.length : Int) := by omega
  have i2 : (d i : Int) < (l.length : Int) := by omega
  obtain ⟨W1, hW1⟩ : ∃ W1, W1 = w.alloc (.cells (bkA aa ca m (some ⟨b, o, none⟩) cb l.length ga gb k) 65) := ⟨_, rfl⟩
  have HB := Lib.hid (show Below w.heap.size w W1 by rw [hW1]; exact (Below.refl w.heap.size w).alloc (Nat.le_refl _) _)
  have k1 : W1.cell? ⟨b, o + d i, none⟩ = some (.int .u64 (lq l (d i))) := (HB.out.cell (World.block_lt_of_cell? w _ z1)).trans z1
  have k2 : W1.cell? ⟨gb, i, none⟩ = some (.int .i64 (d i)) := (HB.out.cell (World.block_lt_of_cell? w _ z2)).trans z2
  have hrow : W1.heap[w.heap.size]? = some (.cells (bkA aa ca m (some ⟨b, o, none⟩) cb l.length ga gb k) 65) := by rw [hW1]; exact alloc_at rfl
  have k3 : W1.cell? ⟨w.heap.size, 1, none⟩ = some (.slice (some ⟨b, o, none⟩) l.length cb) := by rw [cell_of_row _ _ _ _ _ _ hrow]; rfl
  have k4 : W1.cell? ⟨w.heap.size, 3, none⟩ = some (.slice (some ⟨gb, 0, none⟩) l.length l.length) := by rw [cell_of_row _ _ _ _ _ _ hrow]; rfl
  have HW := Lib.hid hW1
  clear hs hr hi hd z1 z2 hrow hW1
  unfold bkA at *
  generalize lq l (d i) = v at *
  generalize d i = x at *
  go_enter Try.func32, Try.ntmps32
  go_wp2
  rw [← HW.out]
  refine wp_region_inv 10 (fun W => Qt W1 W) (by kernel_rfl) (by kernel_rfl) (fun n => ⟨n, rfl⟩) ?_
  simp only [List.take_succ_cons, List.take_zero]
  iterate 10
    apply wpInv_cons
    · rfl
    · intro Wx hw
      have q1 := (hw.cell ⟨b, o + x, none⟩).trans k1
      have q2 := (hw.cell ⟨gb, i, none⟩).trans k2
      have q3 := (hw.cell ⟨w.heap.size, 1, none⟩).trans k3
      have q4 := (hw.cell ⟨w.heap.size, 3, none⟩).trans k4
      go_simp
      exact ⟨hw, rfl⟩
    simp only [Act.put, List.setIfInBounds_toArray, List.set_cons_zero, List.set_cons_succ]
  refine wpInv_nil fun V3 hV => ?_
  have HV := Lib.hid hV
  clear hV
  simp only [List.drop_succ_cons, List.drop_zero]
  go_wp2
  go_ret
  exact ⟨rfl, HB.out.trans (HV.out.below _)⟩
theorem results_row_one {P : Program} {fn : Func} {p : Tmp} {ty : TypeId} (h : fn.results = #[.cell p ty]) (tmps : Array Value) (w : World) (g : Nat) (t : TypeId) (cs : Array Value) (fr : Nat × Nat) (d : TypeDesc)
    (hp : tmps.getD p undef = .pointer (some ⟨g, 0, none⟩)) (hg : w.heap[g]? = some (.cells cs t fr))
    (hu : P.underlying ty = some d) (hd : (match d with | .struct _ | .array _ _ => true | _ => false) = true) (hi : (P.info? ty).map (·.size) = some cs.size) :
    (results fn tmps).run P w = .ok (.agg cs) w := by
  have hp' : tmps[p]?.getD undef = .pointer (some ⟨g, 0, none⟩) := by simpa using hp
  simp [results, h, hp', asAddr, run_loadVar_row w g t ty cs fr d hg hu hd hi]
/-- How many could deal. -/
def KV (xs ys : List (BitVec 64)) (da db : Nat → Nat) (k : Nat) : Prop := k ≤ xs.length ∧ k ≤ ys.length ∧ (∀ i, i < k → lq xs (da i) ≤ lq ys (db i)) ∧ (k < xs.length → k < ys.length → ¬ lq xs (da k) ≤ lq ys (db k))
/-- The book in memory. -/
structure BkS (xs ys : List (BitVec 64)) (aa : Option Addr) (ca : Nat) (ba : Option Addr) (cb p ga gb : Nat) (da db : Nat → Nat) (k : Nat) (w V : World) : Prop where
  row : V.heap[p]? = some (.cells (bkA aa ca xs.length ba cb ys.length ga gb k) 65)
  ra : Rw V ga xs.length da
  rb : Rw V gb ys.length db
  sa : Sl V aa (vQ xs)
  sb : Sl V ba (vQ ys)
  bel : Below w.heap.size w V
  res : V.heap[w.heap.size]? = some (.cells #[.slice none 0 0, .slice none 0 0, .slice none 0 0, .slice none 0 0, .int .i64 0] 65)
theorem BkS.kept {xs ys : List (BitVec 64)} {aa ba : Option Addr} {ca cb p ga gb k : Nat} {da db : Nat → Nat} {w V V' : World} (h : BkS xs ys aa ca ba cb p ga gb da db k w V) (hb : Below V.heap.size V V') : BkS xs ys aa ca ba cb p ga gb da db k w V' :=
  ⟨row_kept h.row hb, h.ra.kept hb, h.rb.kept hb, h.sa.kept hb, h.sb.kept hb, h.bel.trans (hb.mono h.bel.size), row_kept h.res hb⟩
theorem BkS.cell {xs ys : List (BitVec 64)} {aa ba : Option Addr} {ca cb p ga gb k : Nat} {da db : Nat → Nat} {w V : World} (h : BkS xs ys aa ca ba cb p ga gb da db k w V) : V.cell? ⟨p, 4, none⟩ = some (.int .i64 k) := by
  rw [cell_of_row _ _ _ _ _ _ h.row]; rfl
set_option maxRecDepth 100000 in
set_option maxHeartbeats 2000000 in
theorem opened_any (xs ys : List (BitVec 64)) (aa ba : Option Addr) (ca cb : Nat) (w : World) (hna : xs.length ≤ 17592186043904) (hnb : ys.length ≤ 17592186043904) (ha : Sl w aa (vQ xs)) (hb : Sl w ba (vQ ys)) :
    Calls Try.prog 30 #[.slice aa xs.length ca, .slice ba ys.length cb] w fun r w' => ∃ (ga gb : Nat) (da db : Nat → Nat) (k : Nat), r = .returned (.agg (bkA aa ca xs.length ba cb ys.length ga gb k)) ∧ w.heap.size ≤ ga ∧ ga < gb ∧ RankZ true xs da ∧ RankZ false ys db ∧ KV xs ys da db k ∧
      Rw w' ga xs.length da ∧ Rw w' gb ys.length db ∧ Sl w' aa (vQ xs) ∧ Sl w' ba (vQ ys) ∧ Below w.heap.size w w' := by
  have HA := Lib.hid ha
  have HB := Lib.hid hb
  have HRA := Lib.hid (show ∀ W, Sl W aa (vQ xs) → Calls Try.prog 53 #[.slice aa xs.length ca, .func (.func 54) #[] #[]] W fun r w' => ∃ (g : Nat) (d : Nat → Nat), r = .returned (.slice (some ⟨g, 0, none⟩) xs.length xs.length) ∧ W.heap.size ≤ g ∧ Rw w' g xs.length d ∧ RankZ true xs d ∧ Below W.heap.size W w' from fun W h => rank_any true xs aa ca W hna h)
  have HRB := Lib.hid (show ∀ W, Sl W ba (vQ ys) → Calls Try.prog 53 #[.slice ba ys.length cb, .func (.func 55) #[] #[]] W fun r w' => ∃ (g : Nat) (d : Nat → Nat), r = .returned (.slice (some ⟨g, 0, none⟩) ys.length ys.length) ∧ W.heap.size ≤ g ∧ Rw w' g ys.length d ∧ RankZ false ys d ∧ Below W.heap.size W w' from fun W h => rank_any false ys ba cb W hnb h)
  clear ha hb
  go_enter Try.func30, Try.ntmps30
  go_upto_region 1 with fail
  obtain ⟨p, hp⟩ : ∃ p, p = w.heap.size + 1 := ⟨_, rfl⟩
  go_wp2_with ((with_reducible refine at_store_op ?_); refine wpList_store_lit 65 p 0 #[.slice aa xs.length ca, .slice ba ys.length cb, .slice none 0 0, .slice none 0 0, .int .i64 0] (.agg #[.slice aa xs.length ca, .slice ba ys.length cb, .slice none 0 0, .slice none 0 0, .int .i64 0]) (cur := #[.slice none 0 0, .slice none 0 0, .slice none 0 0, .slice none 0 0, .int .i64 0]) (t := 65) (alloc_at (by rw [hp]; simp)) sz65 (Nat.le_of_ble_eq_true rfl) rfl rfl ?_ ?_ ?_; (rw [hp]; rfl); exact rfl; intro w1 hp1)
  have HB1 := Lib.hid (show Below w.heap.size w w1 from hp1.below (((Below.refl w.heap.size w).alloc (Nat.le_refl _) _).alloc (by simp) _) (by simp; omega) (by omega))
  have HR1 := Lib.hid hp1.at'
  have HZ1 := Lib.hid (hp1.row (alloc_old (alloc_at rfl)) (show w.heap.size ≠ p by omega))
  clear hp1
  refine (HRA.out w1 (HA.out.kept HB1.out)).mono ?_
  rintro e1 w2 ⟨ga, da, rfl, hga, hra, hza, hb2⟩
  have HR2 := Lib.hid (row_kept HR1.out hb2)
  have HZ2 := Lib.hid (row_kept HZ1.out hb2)
  have HB2 := Lib.hid (HB1.out.trans (hb2.mono HB1.out.size))
  have HGA := Lib.hid (show w.heap.size ≤ ga ∧ p < ga ∧ ga < w2.heap.size by
    have h1 := lt_row HR1.out
    have h2 := lt_row hra
    have h3 := HB1.out.size
    omega)
  have HRO := Lib.hid hra
  have HZA := Lib.hid hza
  clear hga hra hza hb2
  go_wp2_with ((with_reducible refine at_store_op ?_); refine wpList_store_lit 24 p 2 #[.slice aa xs.length ca, .slice ba ys.length cb, .slice (some ⟨ga, 0, none⟩) xs.length xs.length, .slice none 0 0, .int .i64 0] (.slice (some ⟨ga, 0, none⟩) xs.length xs.length) HR2.out sz24 (Nat.le_of_ble_eq_true rfl) rfl rfl ?_ ?_ ?_; (rw [hp]; rfl); exact rfl; intro w3 hp3)
  have HB3 := Lib.hid (show Below w.heap.size w w3 from hp3.below HB2.out HB2.out.size (by omega))
  have HR3 := Lib.hid hp3.at'
  have HRO3 := Lib.hid (show Rw w3 ga xs.length da from hp3.row HRO.out (by have := HGA.out; omega))
  have HSZ3 := Lib.hid (show w3.heap.size = w2.heap.size from hp3.size)
  have HZ3 := Lib.hid (hp3.row HZ2.out (show w.heap.size ≠ p by omega))
  clear hp3
  refine (HRB.out w3 (HB.out.kept HB3.out)).mono ?_
  rintro e2 w4 ⟨gb, db, rfl, hgb, hrb, hzb, hb4⟩
  have HR4 := Lib.hid (row_kept HR3.out hb4)
  have HZ4 := Lib.hid (row_kept HZ3.out hb4)
  have HB4 := Lib.hid (HB3.out.trans (hb4.mono HB3.out.size))
  have HRO4 := Lib.hid (show Rw w4 ga xs.length da from HRO3.out.kept hb4)
  have HGB := Lib.hid (show ga < gb ∧ gb < w4.heap.size by
    have h1 := HGA.out
    have h2 := lt_row hrb
    have h3 := HSZ3.out
    omega)
  have HRP := Lib.hid hrb
  have HZB := Lib.hid hzb
  clear hgb hrb hzb hb4
  go_wp2_with ((with_reducible refine at_store_op ?_); refine wpList_store_lit 24 p 3 #[.slice aa xs.length ca, .slice ba ys.length cb, .slice (some ⟨ga, 0, none⟩) xs.length xs.length, .slice (some ⟨gb, 0, none⟩) ys.length ys.length, .int .i64 0] (.slice (some ⟨gb, 0, none⟩) ys.length ys.length) HR4.out sz24 (Nat.le_of_ble_eq_true rfl) rfl rfl ?_ ?_ ?_; (rw [hp]; rfl); exact rfl; intro w5 hp5; have HB5 := Lib.hid (show Below w.heap.size w w5 from hp5.below HB4.out HB4.out.size (by omega)); have HS5 := Lib.hid (show BkS xs ys aa ca ba cb p ga gb da db 0 w w5 from ⟨hp5.at', hp5.row HRO4.out (by have := HGA.out; omega), hp5.row HRP.out (by have := HGA.out; have := HGB.out; omega), HA.out.kept HB5.out, HB.out.kept HB5.out, HB5.out, hp5.row HZ4.out (show w.heap.size ≠ p by omega)⟩); clear hp5)
  rw [← hp]
  have HLA := Lib.hid HA.out.lt
  have HLB := Lib.hid HB.out.lt
  clear HB1 HR1 HR2 HB2 HRO HR3 HB3 HRO3 HSZ3 HR4 HB4 HRO4 HRP HB5 HRA HRB HA HB
  have HPW := Lib.hid (show w.heap.size < p by omega)
  clear hp
  go_loopw [] (fun V => ∃ k : Nat, k ≤ xs.length ∧ k ≤ ys.length ∧ (∀ i, i < k → lq xs (da i) ≤ lq ys (db i)) ∧ BkS xs ys aa ca ba cb p ga gb da db k w V) (fun V => xs.length - (match V.cell? ⟨p, 4, none⟩ with | some v => (intOf v).toNat | none => 0))
  case atStart => exact ⟨0, Nat.zero_le _, Nat.zero_le _, fun i hi => absurd hi (Nat.not_lt_zero _), HS5.out⟩
  case round =>
    obtain ⟨k, hk1, hk2, hk3, hs⟩ := hrel
    have HS := Lib.hid hs
    have HK := Lib.hid (show k ≤ xs.length ∧ k ≤ ys.length ∧ (∀ i, i < k → lq xs (da i) ≤ lq ys (db i)) from ⟨hk1, hk2, hk3⟩)
    clear hs hk3 HS5
    have fin : (¬ (k < xs.length ∧ k < ys.length ∧ lq xs (da k) ≤ lq ys (db k))) → KV xs ys da db k := fun h => ⟨HK.out.1, HK.out.2.1, HK.out.2.2, fun h1 h2 h3 => h ⟨h1, h2, h3⟩⟩
    have HFIN := Lib.hid fin
    clear fin
    by_cases c1 : k < xs.length
    · have t1 : decide ((k : Int) < (xs.length : Int)) = true := decide_eq_true (by omega)
      have t1n : decide (k < xs.length) = true := decide_eq_true c1
      by_cases c2 : k < ys.length
      · have t2 : decide ((k : Int) < (ys.length : Int)) = true := decide_eq_true (by omega)
        have t2n : decide (k < ys.length) = true := decide_eq_true c2
        have HC := Lib.hid (show k < xs.length ∧ k < ys.length from ⟨c1, c2⟩)
        have HASK := Lib.hid (show ∀ V, BkS xs ys aa ca ba cb p ga gb da db k w V → Calls Try.prog 31 #[.agg (bkA aa ca xs.length ba cb ys.length ga gb k), .int .i64 k] V fun r V' => r = .returned (.int .u64 (lq xs (da k))) ∧ BkS xs ys aa ca ba cb p ga gb da db k w V' from fun V h =>
          (ask_any xs da aa ba ca cb ys.length ga gb k k V c1 (rankz_lt HZA.out c1) h.sa h.ra).mono fun r V' ⟨h1, h2⟩ => ⟨h1, h.kept h2⟩)
        have HBID := Lib.hid (show ∀ V, BkS xs ys aa ca ba cb p ga gb da db k w V → Calls Try.prog 32 #[.agg (bkA aa ca xs.length ba cb ys.length ga gb k), .int .i64 k] V fun r V' => r = .returned (.int .u64 (lq ys (db k))) ∧ BkS xs ys aa ca ba cb p ga gb da db k w V' from fun V h =>
          (bid_any ys db aa ba ca cb xs.length ga gb k k V c2 (rankz_lt HZB.out c2) h.sb h.rb).mono fun r V' ⟨h1, h2⟩ => ⟨h1, h.kept h2⟩)
        by_cases c3 : lq xs (da k) ≤ lq ys (db k)
        · have t3 : decide ((lq xs (da k) : Int) ≤ (lq ys (db k) : Int)) = true := decide_eq_true (by omega)
          have t3n : decide (lq xs (da k) ≤ lq ys (db k)) = true := decide_eq_true c3
          have HNX := Lib.hid (show ∀ i, i < k + 1 → lq xs (da i) ≤ lq ys (db i) from fun i hi => by
            by_cases h : i = k
            · rw [h]; exact c3
            · exact HK.out.2.2 i (by omega))
          clear c1 c2 c3 hk1 hk2
          generalize lq xs (da k) = va at *
          generalize lq ys (db k) = vb at *
          go_wp2
          refine wp_region_inv 23 (fun V => BkS xs ys aa ca ba cb p ga gb da db k w V) (by kernel_rfl) (by kernel_rfl) (fun n => HS.out.kept (below_drawn (Below.refl _ _) n)) ?_
          simp only [List.take_succ_cons, List.take_zero]
          iterate 23
            first
              | (apply wpInv_cons
                 · rfl
                 · intro Wx hw
                   have q1 := hw.cell
                   first
                     | (go_simp; exact ⟨hw, rfl⟩)
                     | exact inv_load_row 65 _ rfl p rfl 65 _ _ _ hw.row Try.underlying65 rfl sz65 hw
                     | (go_simp; show Calls _ _ _ _ _; with_reducible exact HASK.out _ hw)
                     | (go_simp; show Calls _ _ _ _ _; with_reducible exact HBID.out _ hw))
              | (apply wpInv_skip
                 · rfl)
            simp only [Act.put, List.setIfInBounds_toArray, List.set_cons_zero, List.set_cons_succ]
          refine wpInv_nil fun V3 hV => ?_
          have HV := Lib.hid hV
          clear hV
          simp only [List.drop_succ_cons, List.drop_zero]
          have q1 := HV.out.cell
          obtain ⟨k1, hk1⟩ : ∃ k1, k1 = k + 1 := ⟨_, rfl⟩
          have w1 : IntKind.i64.wrap ((k : Int) + 1) = (k1 : Int) := by rw [IntKind.wrap_i64]; have := HC.out; omega
          have HK1 := Lib.hid hk1
          rw [← hk1] at HNX
          have q0 := Lib.hid (HS.out.cell)
          clear hk1
          go_wp2_with ((with_reducible refine at_store_op ?_); refine wpList_store_lit 3 p 4 (bkA aa ca xs.length ba cb ys.length ga gb k1) (.int .i64 (k1 : Int)) HV.out.row szI (Nat.le_of_ble_eq_true rfl) rfl rfl ?_ ?_ ?_; exact rfl; exact rfl; intro V4 hp4; have HN := Lib.hid (show BkS xs ys aa ca ba cb p ga gb da db k1 w V4 from ⟨hp4.at', hp4.row HV.out.ra (by have := HGA.out; omega), hp4.row HV.out.rb (by have := HGA.out; have := HGB.out; omega), hp4.only.sl HV.out.sa (fun y hy hne => by have := HLA.out y hy hne; have := HPW.out; omega), hp4.only.sl HV.out.sb (fun y hy hne => by have := HLB.out y hy hne; have := HPW.out; omega), hp4.below HV.out.bel HV.out.bel.size (by have := HPW.out; omega), hp4.row HV.out.res (by have := HPW.out; omega)⟩); clear hp4)
          go_roundw
          case rel => exact ⟨k1, by have := HC.out; have := HK1.out; omega, by have := HC.out; have := HK1.out; omega, HNX.out, HN.out⟩
          case measure =>
            rw [HN.out.cell, q0.out]
            have := HC.out; have := HK1.out
            simp [intOf]; omega
        · have t3 : decide ((lq xs (da k) : Int) ≤ (lq ys (db k) : Int)) = false := decide_eq_false (by omega)
          have t3n : decide (lq xs (da k) ≤ lq ys (db k)) = false := decide_eq_false c3
          have HKV := Lib.hid (HFIN.out fun h => c3 h.2.2)
          clear c1 c2 c3 hk1 hk2
          generalize lq xs (da k) = va at *
          generalize lq ys (db k) = vb at *
          go_wp2
          refine wp_region_inv 23 (fun V => BkS xs ys aa ca ba cb p ga gb da db k w V) (by kernel_rfl) (by kernel_rfl) (fun n => HS.out.kept (below_drawn (Below.refl _ _) n)) ?_
          simp only [List.take_succ_cons, List.take_zero]
          iterate 23
            first
              | (apply wpInv_cons
                 · rfl
                 · intro Wx hw
                   have q1 := hw.cell
                   first
                     | (go_simp; exact ⟨hw, rfl⟩)
                     | exact inv_load_row 65 _ rfl p rfl 65 _ _ _ hw.row Try.underlying65 rfl sz65 hw
                     | (go_simp; show Calls _ _ _ _ _; with_reducible exact HASK.out _ hw)
                     | (go_simp; show Calls _ _ _ _ _; with_reducible exact HBID.out _ hw))
              | (apply wpInv_skip
                 · rfl)
            simp only [Act.put, List.setIfInBounds_toArray, List.set_cons_zero, List.set_cons_succ]
          refine wpInv_nil fun V3 hV => ?_
          have HV := Lib.hid hV
          clear hV
          simp only [List.drop_succ_cons, List.drop_zero]
          go_wp2_with (first
            | ((with_reducible refine at_store_op ?_); refine wpList_store_lit 65 w.heap.size 0 (bkA aa ca xs.length ba cb ys.length ga gb k) (.agg (bkA aa ca xs.length ba cb ys.length ga gb k)) HV.out.res sz65 (Nat.le_of_ble_eq_true rfl) rfl rfl ?_ ?_ ?_; exact rfl; exact rfl; intro V4 hp4; have HP4 := Lib.hid hp4; clear hp4)
            | refine wpList_load_lit 65 p HV.out.row Try.underlying65 rfl sz65 (by exact rfl) ?_)
          exact bodyPost_ret (results_row_one Try.results30 _ _ w.heap.size 65 _ _ _ rfl HP4.out.at' Try.underlying65 rfl sz65) rfl ⟨ga, gb, da, db, k, rfl, HGA.out.1, HGB.out.1, HZA.out, HZB.out, HKV.out, HP4.out.row HV.out.ra (by have := HGA.out; have := HPW.out; omega), HP4.out.row HV.out.rb (by have := HGA.out; have := HGB.out; have := HPW.out; omega), HP4.out.only.sl HV.out.sa (fun y hy hne => by have := HLA.out y hy hne; omega), HP4.out.only.sl HV.out.sb (fun y hy hne => by have := HLB.out y hy hne; omega), HP4.out.below HV.out.bel HV.out.bel.size (Nat.le_refl _)⟩
      · have t2 : decide ((k : Int) < (ys.length : Int)) = false := decide_eq_false (by omega)
        have t2n : decide (k < ys.length) = false := decide_eq_false c2
        have HKV := Lib.hid (HFIN.out fun h => c2 h.2.1)
        clear c1 c2 hk1 hk2
        go_wp2
        refine wp_region_inv 23 (fun V => BkS xs ys aa ca ba cb p ga gb da db k w V) (by kernel_rfl) (by kernel_rfl) (fun n => HS.out.kept (below_drawn (Below.refl _ _) n)) ?_
        simp only [List.take_succ_cons, List.take_zero]
        iterate 23
          first
            | (apply wpInv_cons
               · rfl
               · intro Wx hw
                 have q1 := hw.cell
                 first
                   | (go_simp; exact ⟨hw, rfl⟩)
                   | exact inv_load_row 65 _ rfl p rfl 65 _ _ _ hw.row Try.underlying65 rfl sz65 hw
                   | (go_simp; show Calls _ _ _ _ _; with_reducible exact HASK.out _ hw)
                   | (go_simp; show Calls _ _ _ _ _; with_reducible exact HBID.out _ hw))
            | (apply wpInv_skip
               · rfl)
          simp only [Act.put, List.setIfInBounds_toArray, List.set_cons_zero, List.set_cons_succ]
        refine wpInv_nil fun V3 hV => ?_
        have HV := Lib.hid hV
        clear hV
        simp only [List.drop_succ_cons, List.drop_zero]
        go_wp2_with (first
          | ((with_reducible refine at_store_op ?_); refine wpList_store_lit 65 w.heap.size 0 (bkA aa ca xs.length ba cb ys.length ga gb k) (.agg (bkA aa ca xs.length ba cb ys.length ga gb k)) HV.out.res sz65 (Nat.le_of_ble_eq_true rfl) rfl rfl ?_ ?_ ?_; exact rfl; exact rfl; intro V4 hp4; have HP4 := Lib.hid hp4; clear hp4)
          | refine wpList_load_lit 65 p HV.out.row Try.underlying65 rfl sz65 (by exact rfl) ?_)
        exact bodyPost_ret (results_row_one Try.results30 _ _ w.heap.size 65 _ _ _ rfl HP4.out.at' Try.underlying65 rfl sz65) rfl ⟨ga, gb, da, db, k, rfl, HGA.out.1, HGB.out.1, HZA.out, HZB.out, HKV.out, HP4.out.row HV.out.ra (by have := HGA.out; have := HPW.out; omega), HP4.out.row HV.out.rb (by have := HGA.out; have := HGB.out; have := HPW.out; omega), HP4.out.only.sl HV.out.sa (fun y hy hne => by have := HLA.out y hy hne; omega), HP4.out.only.sl HV.out.sb (fun y hy hne => by have := HLB.out y hy hne; omega), HP4.out.below HV.out.bel HV.out.bel.size (Nat.le_refl _)⟩
    · have t1 : decide ((k : Int) < (xs.length : Int)) = false := decide_eq_false (by omega)
      have t1n : decide (k < xs.length) = false := decide_eq_false c1
      have HKV := Lib.hid (HFIN.out fun h => c1 h.1)
      clear c1 hk1 hk2
      go_wp2
      refine wp_region_inv 23 (fun V => BkS xs ys aa ca ba cb p ga gb da db k w V) (by kernel_rfl) (by kernel_rfl) (fun n => HS.out.kept (below_drawn (Below.refl _ _) n)) ?_
      simp only [List.take_succ_cons, List.take_zero]
      iterate 23
        first
          | (apply wpInv_cons
             · rfl
             · intro Wx hw
               have q1 := hw.cell
               first
                 | (go_simp; exact ⟨hw, rfl⟩)
                 | exact inv_load_row 65 _ rfl p rfl 65 _ _ _ hw.row Try.underlying65 rfl sz65 hw
                 | (go_simp; show Calls _ _ _ _ _; with_reducible exact HASK.out _ hw)
                 | (go_simp; show Calls _ _ _ _ _; with_reducible exact HBID.out _ hw))
          | (apply wpInv_skip
             · rfl)
        simp only [Act.put, List.setIfInBounds_toArray, List.set_cons_zero, List.set_cons_succ]
      refine wpInv_nil fun V3 hV => ?_
      have HV := Lib.hid hV
      clear hV
      simp only [List.drop_succ_cons, List.drop_zero]
      go_wp2_with (first
        | ((with_reducible refine at_store_op ?_); refine wpList_store_lit 65 w.heap.size 0 (bkA aa ca xs.length ba cb ys.length ga gb k) (.agg (bkA aa ca xs.length ba cb ys.length ga gb k)) HV.out.res sz65 (Nat.le_of_ble_eq_true rfl) rfl rfl ?_ ?_ ?_; exact rfl; exact rfl; intro V4 hp4; have HP4 := Lib.hid hp4; clear hp4)
        | refine wpList_load_lit 65 p HV.out.row Try.underlying65 rfl sz65 (by exact rfl) ?_)
      exact bodyPost_ret (results_row_one Try.results30 _ _ w.heap.size 65 _ _ _ rfl HP4.out.at' Try.underlying65 rfl sz65) rfl ⟨ga, gb, da, db, k, rfl, HGA.out.1, HGB.out.1, HZA.out, HZB.out, HKV.out, HP4.out.row HV.out.ra (by have := HGA.out; have := HPW.out; omega), HP4.out.row HV.out.rb (by have := HGA.out; have := HGB.out; have := HPW.out; omega), HP4.out.only.sl HV.out.sa (fun y hy hne => by have := HLA.out y hy hne; omega), HP4.out.only.sl HV.out.sb (fun y hy hne => by have := HLB.out y hy hne; omega), HP4.out.below HV.out.bel HV.out.bel.size (Nat.le_refl _)⟩
end Go.Proofs.Ytbggibdldadpiaa
