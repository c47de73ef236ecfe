/-
  Layer 20: give with a closure that tells one account.
-/
import Derived.Test.YtiafhgcnjgpeaaaWh
namespace Go.Proofs.Ytiafhgcnjgpeaaa
open Go.RowKit Go.K
set_option linter.unusedVariables false
set_option linter.unusedSimpArgs false

def giveV (T : Int) (es : List Ent) : List Gi := es.flatMap fun e => gV e T
theorem giveV_succ (T : Int) (es : List Ent) (k : Nat) (h : k < es.length) : giveV T (es.take (k + 1)) = giveV T (es.take k) ++ gV es[k] T := by
  unfold giveV
  rw [List.take_succ_eq_append_getElem h, List.flatMap_append]
  simp
theorem giveV_length_le (T : Int) (es : List Ent) : (giveV T es).length ≤ 2 * es.length := by
  induction es with
  | nil => simp [giveV]
  | cons e l ih =>
    have : giveV T (e :: l) = gV e T ++ giveV T l := rfl
    rw [this, List.length_append, List.length_cons]
    have := gV_length_le e T
    omega
theorem giveV_take_le (T : Int) (es : List Ent) (k : Nat) : (giveV T (es.take k)).length ≤ 2 * es.length := by
  have h1 := giveV_length_le T (es.take k)
  have h2 : (es.take k).length ≤ es.length := by rw [List.length_take]; omega
  omega
set_option maxRecDepth 100000 in
set_option maxHeartbeats 4000000 in
theorem give_45 (B : Nat) (v0 : Value) (n0 : Nat) (xs0 : List Value) (ea : Option Addr) (ec : Nat) (es : List Ent) (T : Int) (pb : Nat) (w : World) (hB : B ≤ w.heap.size) (ho : w.ownsRow B 56 3 v0 n0 xs0) (hn : n0 ≤ 2) (hm : es.length ≤ 2513169434843)
    (hsl : Sl w ea (eFlat es)) (hfar : ∀ x, ea = some x → eFlat es ≠ [] → some x.block ≠ v0.ownBlock)
    (hK : ∀ x V, Below B w V → Calls Try.prog 45 #[Ent.agg x, .pointer (some ⟨pb, 0, none⟩)] V fun r w' => r = .returned (.int .i64 T) ∧ Below V.heap.size V w') :
    Calls Try.prog 41 #[v0, .func (.func 45) #[] #[.pointer (some ⟨pb, 0, none⟩)], .slice ea es.length ec] w fun r w' => ∃ v, r = .returned v ∧ w'.ownsRow B 56 3 v (n0 + (giveV T es).length) (xs0 ++ gFlat (giveV T es)) ∧ Below B w w' := by
  have HB0 := Lib.hid hB
  have HO0 := Lib.hid ho
  have HS0 := Lib.hid hsl
  have HM := Lib.hid hm
  have HF := Lib.hid hfar
  have HK0 := Lib.hid hK
  clear hB ho hsl hfar hK
  go_enter Try.func41, Try.ntmps41
  go_wp2
  go_loopw [0, 11] (fun v' i wr => ∃ (j : Nat) (v : Value), v = v' ∧ j ≤ es.length ∧ i = .int .i64 j ∧ GInv B w v0 ea es v (n0 + (giveV T (es.take j)).length) (xs0 ++ gFlat (giveV T (es.take j))) wr) (fun _ i _ => es.length - (intOf i).toNat)
  case atStart => exact ⟨0, _, rfl, by omega, rfl, Below.refl _ _, Nat.le_refl _, .inl rfl, HS0.out, by simpa [giveV, gFlat] using HO0.out⟩
  case round =>
    obtain ⟨j, v, hv, hj, rfl, hi⟩ := hrel
    subst hv
    have HI := Lib.hid hi
    have HB := Lib.hid hi.bel
    have HZ := Lib.hid hi.sz
    have HSL := Lib.hid hi.sl
    have HO := Lib.hid hi.row
    clear hi
    by_cases hlt : j < es.length
    · have t0 : decide ((j : Int) < (es.length : Int)) = true := by simp; omega
      have i1 : (j : Int) < (es.length : Int) := by omega
      obtain ⟨ob, oo, hea, f0, f1, f2, f3, f4⟩ := ent_at HSL.out j hlt
      subst hea
      have HS := Lib.hid (giveV_succ T es j hlt)
      have HL := Lib.hid (giveV_take_le T es j)
      generalize es[j] = x at *
      obtain ⟨xa, xi, xc, xp, xw, xk, xs⟩ := x
      simp only at f0 f1 f2 f3 f4 HS
      have HK := Lib.hid (show ∀ V : World, Below B w V → _ from fun V hV => HK0.out ⟨xa, xi, xc, xp, xw, xk, xs⟩ V hV)
      unfold Ent.agg at HK
      simp only at HK
      by_cases h1 : xi = 0
      · have c1 : (xi != 0) = false := by simpa using h1
        by_cases h2 : xc = 0
        · have c2 : (xc != 0) = false := by simpa using h2
          have HG := Lib.hid (show gV ⟨xa, xi, xc, xp, xw, xk, xs⟩ T = [] by simp [gV, h1, h2])
          clear h1 h2
          go_wp2
          go_roundw
          case rel => exact ⟨j + 1, _, rfl, by omega, by go_num, by rw [HS.out, HG.out, List.append_nil]; exact HI.out.below HB0.out ((Below.refl _ _).alloc (Nat.le_refl _) _)⟩
          case measure => simp [intOf]; omega
        · have c2 : (xc != 0) = true := by simpa using h2
          have HG := Lib.hid (show gV ⟨xa, xi, xc, xp, xw, xk, xs⟩ T = [⟨T, 0, xc⟩] by simp [gV, h1, h2])
          have hBw := Nat.le_trans HB0.out HZ.out
          have HNE := Lib.hid (show some wr.heap.size ≠ v.ownBlock from fun h => by have := (HO.out.lt _ h.symm).2; omega)
          have B1 := Lib.hid (show n0 + (giveV T (es.take j)).length + 1 ≤ maxLen by have h1 := HL.out; unfold maxLen; omega)
          have B2 := Lib.hid (show (n0 + (giveV T (es.take j)).length + 1) * 24 ≤ 140737488355328 by have h1 := HL.out; omega)
          clear h1 h2
          go_wp2
          go_region_held3 (fun V => V.cell? ⟨wr.heap.size, 0, none⟩ = some (.int .i64 xa) ∧ V.cell? ⟨wr.heap.size, 1, none⟩ = some (.int .i64 xi) ∧ V.cell? ⟨wr.heap.size, 2, none⟩ = some (.int .u64 xc) ∧
            V.cell? ⟨wr.heap.size, 3, none⟩ = some (.int .u64 xp) ∧ V.cell? ⟨wr.heap.size, 4, none⟩ = some (.slice xw xs.length xk)) (go_keep)
            ((first
              | (go_at_call 45; refine (HK.out _ (below_drawn (HB.out.alloc hBw _) _)).mono ?_; rintro e w1 ⟨rfl, hbg⟩; have hbw := below_of_drew hbg; have ho1 := owns_below (B := 0) (HO.out.alloc _) hbw
                 have r1 : w1.heap[wr.heap.size]? = some (.cells #[.int .i64 xa, .int .i64 xi, .int .u64 xc, .int .u64 xp, .slice xw xs.length xk] 44) := row_kept (alloc_at rfl) hbw; have q0 : w1.cell? ⟨wr.heap.size, 0, none⟩ = some (.int .i64 xa) := (by rw [cell_of_row _ _ _ _ _ _ r1]; rfl); have q1 : w1.cell? ⟨wr.heap.size, 1, none⟩ = some (.int .i64 xi) := (by rw [cell_of_row _ _ _ _ _ _ r1]; rfl); have q2 : w1.cell? ⟨wr.heap.size, 2, none⟩ = some (.int .u64 xc) := (by rw [cell_of_row _ _ _ _ _ _ r1]; rfl); have q3 : w1.cell? ⟨wr.heap.size, 3, none⟩ = some (.int .u64 xp) := (by rw [cell_of_row _ _ _ _ _ _ r1]; rfl); have q4 : w1.cell? ⟨wr.heap.size, 4, none⟩ = some (.slice xw xs.length xk) := (by rw [cell_of_row _ _ _ _ _ _ r1]; rfl))
              | (refine step_append_sl_at (by rfl) _ _ 37 (by rfl) B 56 (.agg #[.int .i64 0, .int .i64 0, .int .u64 0]) 3 24 Try.underlying37 info56' (by rfl) (by decide) v _ _ (by rfl) (ho1.alloc _) (some ⟨w1.heap.size, 0, none⟩) 1 1 (gFlat [⟨T, 0, xc⟩]) (by rfl) (fun h => by cases h) (by rfl) (sl_gift rfl ⟨T, 0, xc⟩) (oneCell_gFlat _) B1.out B2.out (by have h1 := hbw.size; simp only [World.size_alloc] at h1 ⊢; omega) ?_; intro v2 w2 ho2 hg2 hl2; have p0 := hg2.cell (below_cell ((Below.refl w1.heap.size w1).alloc (Nat.le_refl _) _) q0) HNE.out; have p1 := hg2.cell (below_cell ((Below.refl w1.heap.size w1).alloc (Nat.le_refl _) _) q1) HNE.out; have p2 := hg2.cell (below_cell ((Below.refl w1.heap.size w1).alloc (Nat.le_refl _) _) q2) HNE.out; have p3 := hg2.cell (below_cell ((Below.refl w1.heap.size w1).alloc (Nat.le_refl _) _) q3) HNE.out; have p4 := hg2.cell (below_cell ((Below.refl w1.heap.size w1).alloc (Nat.le_refl _) _) q4) HNE.out)))
          have HI2 := Lib.hid ((((HI.out.below HB0.out ((Below.refl _ _).alloc (Nat.le_refl _) _)).below HB0.out hbw).below HB0.out ((Below.refl _ _).alloc (Nat.le_refl _) _)).grown HB0.out HS0.out HF.out hg2 ho2 hl2)
          clear ho2 hg2 hl2 hbw ho1
          go_wp2
          go_roundw
          case rel => exact ⟨j + 1, _, rfl, by omega, by go_num, by rw [HS.out, HG.out, gFlat_append, List.length_append, ← Nat.add_assoc, ← List.append_assoc]; exact HI2.out⟩
          case measure => simp [intOf]; omega
      · have c1 : (xi != 0) = true := by simpa using h1
        by_cases h2 : xc = 0
        · have c2 : (xc != 0) = false := by simpa using h2
          have HG := Lib.hid (show gV ⟨xa, xi, xc, xp, xw, xk, xs⟩ T = [⟨T, xi, 0⟩] by simp [gV, h1, h2])
          have hBw := Nat.le_trans HB0.out HZ.out
          have HNE := Lib.hid (show some wr.heap.size ≠ v.ownBlock from fun h => by have := (HO.out.lt _ h.symm).2; omega)
          have B1 := Lib.hid (show n0 + (giveV T (es.take j)).length + 1 ≤ maxLen by have h1 := HL.out; unfold maxLen; omega)
          have B2 := Lib.hid (show (n0 + (giveV T (es.take j)).length + 1) * 24 ≤ 140737488355328 by have h1 := HL.out; omega)
          have B3 := Lib.hid (show n0 + (giveV T (es.take j)).length + 1 + 1 ≤ maxLen by have h1 := HL.out; unfold maxLen; omega)
          have B4 := Lib.hid (show (n0 + (giveV T (es.take j)).length + 1 + 1) * 24 ≤ 140737488355328 by have h1 := HL.out; omega)
          clear h1 h2
          go_wp2
          go_region_held3 (fun V => V.cell? ⟨wr.heap.size, 0, none⟩ = some (.int .i64 xa) ∧ V.cell? ⟨wr.heap.size, 1, none⟩ = some (.int .i64 xi) ∧ V.cell? ⟨wr.heap.size, 2, none⟩ = some (.int .u64 xc) ∧ V.cell? ⟨wr.heap.size, 3, none⟩ = some (.int .u64 xp) ∧ V.cell? ⟨wr.heap.size, 4, none⟩ = some (.slice xw xs.length xk)) (go_keep)
            ((first
              | (go_at_call 45; refine (HK.out _ (below_drawn (HB.out.alloc hBw _) _)).mono ?_; rintro e w1 ⟨rfl, hbg⟩; have hbw := below_of_drew hbg; have ho1 := owns_below (B := 0) (HO.out.alloc _) hbw; have r1 : w1.heap[wr.heap.size]? = some (.cells #[.int .i64 xa, .int .i64 xi, .int .u64 xc, .int .u64 xp, .slice xw xs.length xk] 44) := row_kept (alloc_at rfl) hbw; have q0 : w1.cell? ⟨wr.heap.size, 0, none⟩ = some (.int .i64 xa) := (by rw [cell_of_row _ _ _ _ _ _ r1]; rfl); have q1 : w1.cell? ⟨wr.heap.size, 1, none⟩ = some (.int .i64 xi) := (by rw [cell_of_row _ _ _ _ _ _ r1]; rfl); have q2 : w1.cell? ⟨wr.heap.size, 2, none⟩ = some (.int .u64 xc) := (by rw [cell_of_row _ _ _ _ _ _ r1]; rfl); have q3 : w1.cell? ⟨wr.heap.size, 3, none⟩ = some (.int .u64 xp) := (by rw [cell_of_row _ _ _ _ _ _ r1]; rfl); have q4 : w1.cell? ⟨wr.heap.size, 4, none⟩ = some (.slice xw xs.length xk) := (by rw [cell_of_row _ _ _ _ _ _ r1]; rfl))
              | (refine step_append_sl_at (by rfl) _ _ 37 (by rfl) B 56 (.agg #[.int .i64 0, .int .i64 0, .int .u64 0]) 3 24 Try.underlying37 info56' (by rfl) (by decide) v _ _ (by rfl) (ho1.alloc _) (some ⟨w1.heap.size, 0, none⟩) 1 1 (gFlat [⟨T, xi, 0⟩]) (by rfl) (fun h => by cases h) (by rfl) (sl_gift rfl ⟨T, xi, 0⟩) (oneCell_gFlat _) B1.out B2.out (by have h1 := hbw.size; simp only [World.size_alloc] at h1 ⊢; omega) ?_; intro v2 w2 ho2 hg2 hl2; have p0 := hg2.cell (below_cell ((Below.refl w1.heap.size w1).alloc (Nat.le_refl _) _) q0) HNE.out; have p1 := hg2.cell (below_cell ((Below.refl w1.heap.size w1).alloc (Nat.le_refl _) _) q1) HNE.out; have p2 := hg2.cell (below_cell ((Below.refl w1.heap.size w1).alloc (Nat.le_refl _) _) q2) HNE.out; have p3 := hg2.cell (below_cell ((Below.refl w1.heap.size w1).alloc (Nat.le_refl _) _) q3) HNE.out; have p4 := hg2.cell (below_cell ((Below.refl w1.heap.size w1).alloc (Nat.le_refl _) _) q4) HNE.out)))
          have HI2 := Lib.hid ((((HI.out.below HB0.out ((Below.refl _ _).alloc (Nat.le_refl _) _)).below HB0.out hbw).below HB0.out ((Below.refl _ _).alloc (Nat.le_refl _) _)).grown HB0.out HS0.out HF.out hg2 ho2 hl2)
          clear ho2 hg2 hl2 hbw ho1
          go_wp2
          go_roundw
          case rel => exact ⟨j + 1, _, rfl, by omega, by go_num, by rw [HS.out, HG.out, gFlat_append, List.length_append, ← Nat.add_assoc, ← List.append_assoc]; exact HI2.out⟩
          case measure => simp [intOf]; omega
        · have c2 : (xc != 0) = true := by simpa using h2
          have HG := Lib.hid (show gV ⟨xa, xi, xc, xp, xw, xk, xs⟩ T = [⟨T, xi, 0⟩, ⟨T, 0, xc⟩] by simp [gV, h1, h2])
          have hBw := Nat.le_trans HB0.out HZ.out
          have HNE := Lib.hid (show some wr.heap.size ≠ v.ownBlock from fun h => by have := (HO.out.lt _ h.symm).2; omega)
          have B1 := Lib.hid (show n0 + (giveV T (es.take j)).length + 1 ≤ maxLen by have h1 := HL.out; unfold maxLen; omega)
          have B2 := Lib.hid (show (n0 + (giveV T (es.take j)).length + 1) * 24 ≤ 140737488355328 by have h1 := HL.out; omega)
          have B3 := Lib.hid (show n0 + (giveV T (es.take j)).length + 1 + 1 ≤ maxLen by have h1 := HL.out; unfold maxLen; omega)
          have B4 := Lib.hid (show (n0 + (giveV T (es.take j)).length + 1 + 1) * 24 ≤ 140737488355328 by have h1 := HL.out; omega)
          clear h1 h2
          go_wp2
          go_region_held3 (fun V => V.cell? ⟨wr.heap.size, 0, none⟩ = some (.int .i64 xa) ∧ V.cell? ⟨wr.heap.size, 1, none⟩ = some (.int .i64 xi) ∧ V.cell? ⟨wr.heap.size, 2, none⟩ = some (.int .u64 xc) ∧ V.cell? ⟨wr.heap.size, 3, none⟩ = some (.int .u64 xp) ∧ V.cell? ⟨wr.heap.size, 4, none⟩ = some (.slice xw xs.length xk)) (go_keep)
            ((first
              | (go_at_call 45; refine (HK.out _ (below_drawn (HB.out.alloc hBw _) _)).mono ?_; rintro e w1 ⟨rfl, hbg⟩; have hbw := below_of_drew hbg; have ho1 := owns_below (B := 0) (HO.out.alloc _) hbw; have r1 : w1.heap[wr.heap.size]? = some (.cells #[.int .i64 xa, .int .i64 xi, .int .u64 xc, .int .u64 xp, .slice xw xs.length xk] 44) := row_kept (alloc_at rfl) hbw; have q0 : w1.cell? ⟨wr.heap.size, 0, none⟩ = some (.int .i64 xa) := (by rw [cell_of_row _ _ _ _ _ _ r1]; rfl); have q1 : w1.cell? ⟨wr.heap.size, 1, none⟩ = some (.int .i64 xi) := (by rw [cell_of_row _ _ _ _ _ _ r1]; rfl); have q2 : w1.cell? ⟨wr.heap.size, 2, none⟩ = some (.int .u64 xc) := (by rw [cell_of_row _ _ _ _ _ _ r1]; rfl); have q3 : w1.cell? ⟨wr.heap.size, 3, none⟩ = some (.int .u64 xp) := (by rw [cell_of_row _ _ _ _ _ _ r1]; rfl); have q4 : w1.cell? ⟨wr.heap.size, 4, none⟩ = some (.slice xw xs.length xk) := (by rw [cell_of_row _ _ _ _ _ _ r1]; rfl))
              | (refine step_append_sl_at (by rfl) _ _ 37 (by rfl) B 56 (.agg #[.int .i64 0, .int .i64 0, .int .u64 0]) 3 24 Try.underlying37 info56' (by rfl) (by decide) v _ _ (by rfl) (ho1.alloc _) (some ⟨w1.heap.size, 0, none⟩) 1 1 (gFlat [⟨T, xi, 0⟩]) (by rfl) (fun h => by cases h) (by rfl) (sl_gift rfl ⟨T, xi, 0⟩) (oneCell_gFlat _) B1.out B2.out (by have h1 := hbw.size; simp only [World.size_alloc] at h1 ⊢; omega) ?_; intro v2 w2 ho2 hg2 hl2; have p0 := hg2.cell (below_cell ((Below.refl w1.heap.size w1).alloc (Nat.le_refl _) _) q0) HNE.out; have p1 := hg2.cell (below_cell ((Below.refl w1.heap.size w1).alloc (Nat.le_refl _) _) q1) HNE.out; have p2 := hg2.cell (below_cell ((Below.refl w1.heap.size w1).alloc (Nat.le_refl _) _) q2) HNE.out; have p3 := hg2.cell (below_cell ((Below.refl w1.heap.size w1).alloc (Nat.le_refl _) _) q3) HNE.out; have p4 := hg2.cell (below_cell ((Below.refl w1.heap.size w1).alloc (Nat.le_refl _) _) q4) HNE.out)))
          have HI2 := Lib.hid ((((HI.out.below HB0.out ((Below.refl _ _).alloc (Nat.le_refl _) _)).below HB0.out hbw).below HB0.out ((Below.refl _ _).alloc (Nat.le_refl _) _)).grown HB0.out HS0.out HF.out hg2 ho2 hl2)
          have HNE2 := Lib.hid (show some wr.heap.size ≠ v2.ownBlock from fun h => by
            rcases hl2 with e | e
            · exact HNE.out (h.trans e)
            · have h1 := Option.some.inj (h.trans e); have h3 := hbw.size; simp only [World.size_alloc] at h1 h3; omega)
          have HO2 := Lib.hid ho2
          have HZ2 := Lib.hid (Nat.le_trans HB0.out HI2.out.sz)
          clear ho2 hg2 hl2 hbw ho1 r1 q0 q1 q2 q3 q4
          go_wp2
          go_region_held3 (fun V => V.cell? ⟨wr.heap.size, 0, none⟩ = some (.int .i64 xa) ∧ V.cell? ⟨wr.heap.size, 1, none⟩ = some (.int .i64 xi) ∧ V.cell? ⟨wr.heap.size, 2, none⟩ = some (.int .u64 xc) ∧ V.cell? ⟨wr.heap.size, 3, none⟩ = some (.int .u64 xp) ∧ V.cell? ⟨wr.heap.size, 4, none⟩ = some (.slice xw xs.length xk)) (go_keep)
            ((first
              | (go_at_call 45; refine (HK.out _ (below_drawn HI2.out.bel _)).mono ?_; rintro e w3 ⟨rfl, hbg⟩; have hbw3 := below_of_drew hbg; have ho1 := owns_below (B := 0) HO2.out hbw3; have q0 := below_cell hbw3 p0; have q1 := below_cell hbw3 p1; have q2 := below_cell hbw3 p2; have q3 := below_cell hbw3 p3; have q4 := below_cell hbw3 p4)
              | (refine step_append_sl_at (by rfl) _ _ 37 (by rfl) B 56 (.agg #[.int .i64 0, .int .i64 0, .int .u64 0]) 3 24 Try.underlying37 info56' (by rfl) (by decide) v2 _ _ (by rfl) (ho1.alloc _) (some ⟨w3.heap.size, 0, none⟩) 1 1 (gFlat [⟨T, 0, xc⟩]) (by rfl) (fun h => by cases h) (by rfl) (sl_gift rfl ⟨T, 0, xc⟩) (oneCell_gFlat _) B3.out B4.out (by have h1 := hbw3.size; have h3 := HZ2.out; simp only [World.size_alloc]; omega) ?_; intro v4 w4 ho2 hg2 hl2; have p0 := hg2.cell (below_cell ((Below.refl w3.heap.size w3).alloc (Nat.le_refl _) _) q0) HNE2.out; have p1 := hg2.cell (below_cell ((Below.refl w3.heap.size w3).alloc (Nat.le_refl _) _) q1) HNE2.out; have p2 := hg2.cell (below_cell ((Below.refl w3.heap.size w3).alloc (Nat.le_refl _) _) q2) HNE2.out; have p3 := hg2.cell (below_cell ((Below.refl w3.heap.size w3).alloc (Nat.le_refl _) _) q3) HNE2.out; have p4 := hg2.cell (below_cell ((Below.refl w3.heap.size w3).alloc (Nat.le_refl _) _) q4) HNE2.out)))
          have HI4 := Lib.hid (((HI2.out.below HB0.out hbw3).below HB0.out ((Below.refl _ _).alloc (Nat.le_refl _) _)).grown HB0.out HS0.out HF.out hg2 ho2 hl2)
          clear ho2 hg2 hl2 hbw3 ho1
          go_wp2
          go_roundw
          case rel => exact ⟨j + 1, _, rfl, by omega, by go_num, by rw [HS.out, HG.out, gFlat_append, List.length_append, ← Nat.add_assoc, ← List.append_assoc]; have h5 := HI4.out; rw [List.append_assoc, ← gFlat_append] at h5; exact h5⟩
          case measure => simp [intOf]; omega
    · have t0 : decide ((j : Int) < (es.length : Int)) = false := by simp; omega
      have HE := Lib.hid (show es.take j = es from List.take_of_length_le (by omega))
      go_wp2
      go_ret
      have hh := HO.out
      rw [HE.out] at hh
      exact ⟨_, rfl, hh, HB.out⟩
set_option maxRecDepth 100000 in
set_option maxHeartbeats 4000000 in
theorem give_46 (B : Nat) (v0 : Value) (n0 : Nat) (xs0 : List Value) (ea : Option Addr) (ec : Nat) (es : List Ent) (T : Int) (pb : Nat) (w : World) (hB : B ≤ w.heap.size) (ho : w.ownsRow B 56 3 v0 n0 xs0) (hn : n0 ≤ 2) (hm : es.length ≤ 2513169434843)
    (hsl : Sl w ea (eFlat es)) (hfar : ∀ x, ea = some x → eFlat es ≠ [] → some x.block ≠ v0.ownBlock)
    (hK : ∀ x V, Below B w V → Calls Try.prog 46 #[Ent.agg x, .pointer (some ⟨pb, 0, none⟩)] V fun r w' => r = .returned (.int .i64 T) ∧ Below V.heap.size V w') :
    Calls Try.prog 41 #[v0, .func (.func 46) #[] #[.pointer (some ⟨pb, 0, none⟩)], .slice ea es.length ec] w fun r w' => ∃ v, r = .returned v ∧ w'.ownsRow B 56 3 v (n0 + (giveV T es).length) (xs0 ++ gFlat (giveV T es)) ∧ Below B w w' := by
  have HB0 := Lib.hid hB
  have HO0 := Lib.hid ho
  have HS0 := Lib.hid hsl
  have HM := Lib.hid hm
  have HF := Lib.hid hfar
  have HK0 := Lib.hid hK
  clear hB ho hsl hfar hK
  go_enter Try.func41, Try.ntmps41
  go_wp2
  go_loopw [0, 11] (fun v' i wr => ∃ (j : Nat) (v : Value), v = v' ∧ j ≤ es.length ∧ i = .int .i64 j ∧ GInv B w v0 ea es v (n0 + (giveV T (es.take j)).length) (xs0 ++ gFlat (giveV T (es.take j))) wr) (fun _ i _ => es.length - (intOf i).toNat)
  case atStart => exact ⟨0, _, rfl, by omega, rfl, Below.refl _ _, Nat.le_refl _, .inl rfl, HS0.out, by simpa [giveV, gFlat] using HO0.out⟩
  case round =>
    obtain ⟨j, v, hv, hj, rfl, hi⟩ := hrel
    subst hv
    have HI := Lib.hid hi
    have HB := Lib.hid hi.bel
    have HZ := Lib.hid hi.sz
    have HSL := Lib.hid hi.sl
    have HO := Lib.hid hi.row
    clear hi
    by_cases hlt : j < es.length
    · have t0 : decide ((j : Int) < (es.length : Int)) = true := by simp; omega
      have i1 : (j : Int) < (es.length : Int) := by omega
      obtain ⟨ob, oo, hea, f0, f1, f2, f3, f4⟩ := ent_at HSL.out j hlt
      subst hea
      have HS := Lib.hid (giveV_succ T es j hlt)
      have HL := Lib.hid (giveV_take_le T es j)
      generalize es[j] = x at *
      obtain ⟨xa, xi, xc, xp, xw, xk, xs⟩ := x
      simp only at f0 f1 f2 f3 f4 HS
      have HK := Lib.hid (show ∀ V : World, Below B w V → _ from fun V hV => HK0.out ⟨xa, xi, xc, xp, xw, xk, xs⟩ V hV)
      unfold Ent.agg at HK
      simp only at HK
      by_cases h1 : xi = 0
      · have c1 : (xi != 0) = false := by simpa using h1
        by_cases h2 : xc = 0
        · have c2 : (xc != 0) = false := by simpa using h2
          have HG := Lib.hid (show gV ⟨xa, xi, xc, xp, xw, xk, xs⟩ T = [] by simp [gV, h1, h2])
          clear h1 h2
          go_wp2
          go_roundw
          case rel => exact ⟨j + 1, _, rfl, by omega, by go_num, by rw [HS.out, HG.out, List.append_nil]; exact HI.out.below HB0.out ((Below.refl _ _).alloc (Nat.le_refl _) _)⟩
          case measure => simp [intOf]; omega
        · have c2 : (xc != 0) = true := by simpa using h2
          have HG := Lib.hid (show gV ⟨xa, xi, xc, xp, xw, xk, xs⟩ T = [⟨T, 0, xc⟩] by simp [gV, h1, h2])
          have hBw := Nat.le_trans HB0.out HZ.out
          have HNE := Lib.hid (show some wr.heap.size ≠ v.ownBlock from fun h => by have := (HO.out.lt _ h.symm).2; omega)
          have B1 := Lib.hid (show n0 + (giveV T (es.take j)).length + 1 ≤ maxLen by have h1 := HL.out; unfold maxLen; omega)
          have B2 := Lib.hid (show (n0 + (giveV T (es.take j)).length + 1) * 24 ≤ 140737488355328 by have h1 := HL.out; omega)
          clear h1 h2
          go_wp2
          go_region_held3 (fun V => V.cell? ⟨wr.heap.size, 0, none⟩ = some (.int .i64 xa) ∧ V.cell? ⟨wr.heap.size, 1, none⟩ = some (.int .i64 xi) ∧ V.cell? ⟨wr.heap.size, 2, none⟩ = some (.int .u64 xc) ∧
            V.cell? ⟨wr.heap.size, 3, none⟩ = some (.int .u64 xp) ∧ V.cell? ⟨wr.heap.size, 4, none⟩ = some (.slice xw xs.length xk)) (go_keep)
            ((first
              | (go_at_call 46; refine (HK.out _ (below_drawn (HB.out.alloc hBw _) _)).mono ?_; rintro e w1 ⟨rfl, hbg⟩; have hbw := below_of_drew hbg; have ho1 := owns_below (B := 0) (HO.out.alloc _) hbw
                 have r1 : w1.heap[wr.heap.size]? = some (.cells #[.int .i64 xa, .int .i64 xi, .int .u64 xc, .int .u64 xp, .slice xw xs.length xk] 44) := row_kept (alloc_at rfl) hbw; have q0 : w1.cell? ⟨wr.heap.size, 0, none⟩ = some (.int .i64 xa) := (by rw [cell_of_row _ _ _ _ _ _ r1]; rfl); have q1 : w1.cell? ⟨wr.heap.size, 1, none⟩ = some (.int .i64 xi) := (by rw [cell_of_row _ _ _ _ _ _ r1]; rfl); have q2 : w1.cell? ⟨wr.heap.size, 2, none⟩ = some (.int .u64 xc) := (by rw [cell_of_row _ _ _ _ _ _ r1]; rfl); have q3 : w1.cell? ⟨wr.heap.size, 3, none⟩ = some (.int .u64 xp) := (by rw [cell_of_row _ _ _ _ _ _ r1]; rfl); have q4 : w1.cell? ⟨wr.heap.size, 4, none⟩ = some (.slice xw xs.length xk) := (by rw [cell_of_row _ _ _ _ _ _ r1]; rfl))
              | (refine step_append_sl_at (by rfl) _ _ 37 (by rfl) B 56 (.agg #[.int .i64 0, .int .i64 0, .int .u64 0]) 3 24 Try.underlying37 info56' (by rfl) (by decide) v _ _ (by rfl) (ho1.alloc _) (some ⟨w1.heap.size, 0, none⟩) 1 1 (gFlat [⟨T, 0, xc⟩]) (by rfl) (fun h => by cases h) (by rfl) (sl_gift rfl ⟨T, 0, xc⟩) (oneCell_gFlat _) B1.out B2.out (by have h1 := hbw.size; simp only [World.size_alloc] at h1 ⊢; omega) ?_; intro v2 w2 ho2 hg2 hl2; have p0 := hg2.cell (below_cell ((Below.refl w1.heap.size w1).alloc (Nat.le_refl _) _) q0) HNE.out; have p1 := hg2.cell (below_cell ((Below.refl w1.heap.size w1).alloc (Nat.le_refl _) _) q1) HNE.out; have p2 := hg2.cell (below_cell ((Below.refl w1.heap.size w1).alloc (Nat.le_refl _) _) q2) HNE.out; have p3 := hg2.cell (below_cell ((Below.refl w1.heap.size w1).alloc (Nat.le_refl _) _) q3) HNE.out; have p4 := hg2.cell (below_cell ((Below.refl w1.heap.size w1).alloc (Nat.le_refl _) _) q4) HNE.out)))
          have HI2 := Lib.hid ((((HI.out.below HB0.out ((Below.refl _ _).alloc (Nat.le_refl _) _)).below HB0.out hbw).below HB0.out ((Below.refl _ _).alloc (Nat.le_refl _) _)).grown HB0.out HS0.out HF.out hg2 ho2 hl2)
          clear ho2 hg2 hl2 hbw ho1
          go_wp2
          go_roundw
          case rel => exact ⟨j + 1, _, rfl, by omega, by go_num, by rw [HS.out, HG.out, gFlat_append, List.length_append, ← Nat.add_assoc, ← List.append_assoc]; exact HI2.out⟩
          case measure => simp [intOf]; omega
      · have c1 : (xi != 0) = true := by simpa using h1
        by_cases h2 : xc = 0
        · have c2 : (xc != 0) = false := by simpa using h2
          have HG := Lib.hid (show gV ⟨xa, xi, xc, xp, xw, xk, xs⟩ T = [⟨T, xi, 0⟩] by simp [gV, h1, h2])
          have hBw := Nat.le_trans HB0.out HZ.out
          have HNE := Lib.hid (show some wr.heap.size ≠ v.ownBlock from fun h => by have := (HO.out.lt _ h.symm).2; omega)
          have B1 := Lib.hid (show n0 + (giveV T (es.take j)).length + 1 ≤ maxLen by have h1 := HL.out; unfold maxLen; omega)
          have B2 := Lib.hid (show (n0 + (giveV T (es.take j)).length + 1) * 24 ≤ 140737488355328 by have h1 := HL.out; omega)
          have B3 := Lib.hid (show n0 + (giveV T (es.take j)).length + 1 + 1 ≤ maxLen by have h1 := HL.out; unfold maxLen; omega)
          have B4 := Lib.hid (show (n0 + (giveV T (es.take j)).length + 1 + 1) * 24 ≤ 140737488355328 by have h1 := HL.out; omega)
          clear h1 h2
          go_wp2
          go_region_held3 (fun V => V.cell? ⟨wr.heap.size, 0, none⟩ = some (.int .i64 xa) ∧ V.cell? ⟨wr.heap.size, 1, none⟩ = some (.int .i64 xi) ∧ V.cell? ⟨wr.heap.size, 2, none⟩ = some (.int .u64 xc) ∧ V.cell? ⟨wr.heap.size, 3, none⟩ = some (.int .u64 xp) ∧ V.cell? ⟨wr.heap.size, 4, none⟩ = some (.slice xw xs.length xk)) (go_keep)
            ((first
              | (go_at_call 46; refine (HK.out _ (below_drawn (HB.out.alloc hBw _) _)).mono ?_; rintro e w1 ⟨rfl, hbg⟩; have hbw := below_of_drew hbg; have ho1 := owns_below (B := 0) (HO.out.alloc _) hbw; have r1 : w1.heap[wr.heap.size]? = some (.cells #[.int .i64 xa, .int .i64 xi, .int .u64 xc, .int .u64 xp, .slice xw xs.length xk] 44) := row_kept (alloc_at rfl) hbw; have q0 : w1.cell? ⟨wr.heap.size, 0, none⟩ = some (.int .i64 xa) := (by rw [cell_of_row _ _ _ _ _ _ r1]; rfl); have q1 : w1.cell? ⟨wr.heap.size, 1, none⟩ = some (.int .i64 xi) := (by rw [cell_of_row _ _ _ _ _ _ r1]; rfl); have q2 : w1.cell? ⟨wr.heap.size, 2, none⟩ = some (.int .u64 xc) := (by rw [cell_of_row _ _ _ _ _ _ r1]; rfl); have q3 : w1.cell? ⟨wr.heap.size, 3, none⟩ = some (.int .u64 xp) := (by rw [cell_of_row _ _ _ _ _ _ r1]; rfl); have q4 : w1.cell? ⟨wr.heap.size, 4, none⟩ = some (.slice xw xs.length xk) := (by rw [cell_of_row _ _ _ _ _ _ r1]; rfl))
              | (refine step_append_sl_at (by rfl) _ _ 37 (by rfl) B 56 (.agg #[.int .i64 0, .int .i64 0, .int .u64 0]) 3 24 Try.underlying37 info56' (by rfl) (by decide) v _ _ (by rfl) (ho1.alloc _) (some ⟨w1.heap.size, 0, none⟩) 1 1 (gFlat [⟨T, xi, 0⟩]) (by rfl) (fun h => by cases h) (by rfl) (sl_gift rfl ⟨T, xi, 0⟩) (oneCell_gFlat _) B1.out B2.out (by have h1 := hbw.size; simp only [World.size_alloc] at h1 ⊢; omega) ?_; intro v2 w2 ho2 hg2 hl2; have p0 := hg2.cell (below_cell ((Below.refl w1.heap.size w1).alloc (Nat.le_refl _) _) q0) HNE.out; have p1 := hg2.cell (below_cell ((Below.refl w1.heap.size w1).alloc (Nat.le_refl _) _) q1) HNE.out; have p2 := hg2.cell (below_cell ((Below.refl w1.heap.size w1).alloc (Nat.le_refl _) _) q2) HNE.out; have p3 := hg2.cell (below_cell ((Below.refl w1.heap.size w1).alloc (Nat.le_refl _) _) q3) HNE.out; have p4 := hg2.cell (below_cell ((Below.refl w1.heap.size w1).alloc (Nat.le_refl _) _) q4) HNE.out)))
          have HI2 := Lib.hid ((((HI.out.below HB0.out ((Below.refl _ _).alloc (Nat.le_refl _) _)).below HB0.out hbw).below HB0.out ((Below.refl _ _).alloc (Nat.le_refl _) _)).grown HB0.out HS0.out HF.out hg2 ho2 hl2)
          clear ho2 hg2 hl2 hbw ho1
          go_wp2
          go_roundw
          case rel => exact ⟨j + 1, _, rfl, by omega, by go_num, by rw [HS.out, HG.out, gFlat_append, List.length_append, ← Nat.add_assoc, ← List.append_assoc]; exact HI2.out⟩
          case measure => simp [intOf]; omega
        · have c2 : (xc != 0) = true := by simpa using h2
          have HG := Lib.hid (show gV ⟨xa, xi, xc, xp, xw, xk, xs⟩ T = [⟨T, xi, 0⟩, ⟨T, 0, xc⟩] by simp [gV, h1, h2])
          have hBw := Nat.le_trans HB0.out HZ.out
          have HNE := Lib.hid (show some wr.heap.size ≠ v.ownBlock from fun h => by have := (HO.out.lt _ h.symm).2; omega)
          have B1 := Lib.hid (show n0 + (giveV T (es.take j)).length + 1 ≤ maxLen by have h1 := HL.out; unfold maxLen; omega)
          have B2 := Lib.hid (show (n0 + (giveV T (es.take j)).length + 1) * 24 ≤ 140737488355328 by have h1 := HL.out; omega)
          have B3 := Lib.hid (show n0 + (giveV T (es.take j)).length + 1 + 1 ≤ maxLen by have h1 := HL.out; unfold maxLen; omega)
          have B4 := Lib.hid (show (n0 + (giveV T (es.take j)).length + 1 + 1) * 24 ≤ 140737488355328 by have h1 := HL.out; omega)
          clear h1 h2
          go_wp2
          go_region_held3 (fun V => V.cell? ⟨wr.heap.size, 0, none⟩ = some (.int .i64 xa) ∧ V.cell? ⟨wr.heap.size, 1, none⟩ = some (.int .i64 xi) ∧ V.cell? ⟨wr.heap.size, 2, none⟩ = some (.int .u64 xc) ∧ V.cell? ⟨wr.heap.size, 3, none⟩ = some (.int .u64 xp) ∧ V.cell? ⟨wr.heap.size, 4, none⟩ = some (.slice xw xs.length xk)) (go_keep)
            ((first
              | (go_at_call 46; refine (HK.out _ (below_drawn (HB.out.alloc hBw _) _)).mono ?_; rintro e w1 ⟨rfl, hbg⟩; have hbw := below_of_drew hbg; have ho1 := owns_below (B := 0) (HO.out.alloc _) hbw; have r1 : w1.heap[wr.heap.size]? = some (.cells #[.int .i64 xa, .int .i64 xi, .int .u64 xc, .int .u64 xp, .slice xw xs.length xk] 44) := row_kept (alloc_at rfl) hbw; have q0 : w1.cell? ⟨wr.heap.size, 0, none⟩ = some (.int .i64 xa) := (by rw [cell_of_row _ _ _ _ _ _ r1]; rfl); have q1 : w1.cell? ⟨wr.heap.size, 1, none⟩ = some (.int .i64 xi) := (by rw [cell_of_row _ _ _ _ _ _ r1]; rfl); have q2 : w1.cell? ⟨wr.heap.size, 2, none⟩ = some (.int .u64 xc) := (by rw [cell_of_row _ _ _ _ _ _ r1]; rfl); have q3 : w1.cell? ⟨wr.heap.size, 3, none⟩ = some (.int .u64 xp) := (by rw [cell_of_row _ _ _ _ _ _ r1]; rfl); have q4 : w1.cell? ⟨wr.heap.size, 4, none⟩ = some (.slice xw xs.length xk) := (by rw [cell_of_row _ _ _ _ _ _ r1]; rfl))
              | (refine step_append_sl_at (by rfl) _ _ 37 (by rfl) B 56 (.agg #[.int .i64 0, .int .i64 0, .int .u64 0]) 3 24 Try.underlying37 info56' (by rfl) (by decide) v _ _ (by rfl) (ho1.alloc _) (some ⟨w1.heap.size, 0, none⟩) 1 1 (gFlat [⟨T, xi, 0⟩]) (by rfl) (fun h => by cases h) (by rfl) (sl_gift rfl ⟨T, xi, 0⟩) (oneCell_gFlat _) B1.out B2.out (by have h1 := hbw.size; simp only [World.size_alloc] at h1 ⊢; omega) ?_; intro v2 w2 ho2 hg2 hl2; have p0 := hg2.cell (below_cell ((Below.refl w1.heap.size w1).alloc (Nat.le_refl _) _) q0) HNE.out; have p1 := hg2.cell (below_cell ((Below.refl w1.heap.size w1).alloc (Nat.le_refl _) _) q1) HNE.out; have p2 := hg2.cell (below_cell ((Below.refl w1.heap.size w1).alloc (Nat.le_refl _) _) q2) HNE.out; have p3 := hg2.cell (below_cell ((Below.refl w1.heap.size w1).alloc (Nat.le_refl _) _) q3) HNE.out; have p4 := hg2.cell (below_cell ((Below.refl w1.heap.size w1).alloc (Nat.le_refl _) _) q4) HNE.out)))
          have HI2 := Lib.hid ((((HI.out.below HB0.out ((Below.refl _ _).alloc (Nat.le_refl _) _)).below HB0.out hbw).below HB0.out ((Below.refl _ _).alloc (Nat.le_refl _) _)).grown HB0.out HS0.out HF.out hg2 ho2 hl2)
          have HNE2 := Lib.hid (show some wr.heap.size ≠ v2.ownBlock from fun h => by
            rcases hl2 with e | e
            · exact HNE.out (h.trans e)
            · have h1 := Option.some.inj (h.trans e); have h3 := hbw.size; simp only [World.size_alloc] at h1 h3; omega)
          have HO2 := Lib.hid ho2
          have HZ2 := Lib.hid (Nat.le_trans HB0.out HI2.out.sz)
          clear ho2 hg2 hl2 hbw ho1 r1 q0 q1 q2 q3 q4
          go_wp2
          go_region_held3 (fun V => V.cell? ⟨wr.heap.size, 0, none⟩ = some (.int .i64 xa) ∧ V.cell? ⟨wr.heap.size, 1, none⟩ = some (.int .i64 xi) ∧ V.cell? ⟨wr.heap.size, 2, none⟩ = some (.int .u64 xc) ∧ V.cell? ⟨wr.heap.size, 3, none⟩ = some (.int .u64 xp) ∧ V.cell? ⟨wr.heap.size, 4, none⟩ = some (.slice xw xs.length xk)) (go_keep)
            ((first
              | (go_at_call 46; refine (HK.out _ (below_drawn HI2.out.bel _)).mono ?_; rintro e w3 ⟨rfl, hbg⟩; have hbw3 := below_of_drew hbg; have ho1 := owns_below (B := 0) HO2.out hbw3; have q0 := below_cell hbw3 p0; have q1 := below_cell hbw3 p1; have q2 := below_cell hbw3 p2; have q3 := below_cell hbw3 p3; have q4 := below_cell hbw3 p4)
              | (refine step_append_sl_at (by rfl) _ _ 37 (by rfl) B 56 (.agg #[.int .i64 0, .int .i64 0, .int .u64 0]) 3 24 Try.underlying37 info56' (by rfl) (by decide) v2 _ _ (by rfl) (ho1.alloc _) (some ⟨w3.heap.size, 0, none⟩) 1 1 (gFlat [⟨T, 0, xc⟩]) (by rfl) (fun h => by cases h) (by rfl) (sl_gift rfl ⟨T, 0, xc⟩) (oneCell_gFlat _) B3.out B4.out (by have h1 := hbw3.size; have h3 := HZ2.out; simp only [World.size_alloc]; omega) ?_; intro v4 w4 ho2 hg2 hl2; have p0 := hg2.cell (below_cell ((Below.refl w3.heap.size w3).alloc (Nat.le_refl _) _) q0) HNE2.out; have p1 := hg2.cell (below_cell ((Below.refl w3.heap.size w3).alloc (Nat.le_refl _) _) q1) HNE2.out; have p2 := hg2.cell (below_cell ((Below.refl w3.heap.size w3).alloc (Nat.le_refl _) _) q2) HNE2.out; have p3 := hg2.cell (below_cell ((Below.refl w3.heap.size w3).alloc (Nat.le_refl _) _) q3) HNE2.out; have p4 := hg2.cell (below_cell ((Below.refl w3.heap.size w3).alloc (Nat.le_refl _) _) q4) HNE2.out)))
          have HI4 := Lib.hid (((HI2.out.below HB0.out hbw3).below HB0.out ((Below.refl _ _).alloc (Nat.le_refl _) _)).grown HB0.out HS0.out HF.out hg2 ho2 hl2)
          clear ho2 hg2 hl2 hbw3 ho1
          go_wp2
          go_roundw
          case rel => exact ⟨j + 1, _, rfl, by omega, by go_num, by rw [HS.out, HG.out, gFlat_append, List.length_append, ← Nat.add_assoc, ← List.append_assoc]; have h5 := HI4.out; rw [List.append_assoc, ← gFlat_append] at h5; exact h5⟩
          case measure => simp [intOf]; omega
    · have t0 : decide ((j : Int) < (es.length : Int)) = false := by simp; omega
      have HE := Lib.hid (show es.take j = es from List.take_of_length_le (by omega))
      go_wp2
      go_ret
      have hh := HO.out
      rw [HE.out] at hh
      exact ⟨_, rfl, hh, HB.out⟩
end Go.Proofs.Ytiafhgcnjgpeaaa
