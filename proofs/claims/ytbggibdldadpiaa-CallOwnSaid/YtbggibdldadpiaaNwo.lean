/-
  Layer 1: the document's numbers of any length: compared.
-/
import Derived.Test.YtbggibdldadpiaaNwd
namespace Go.Proofs.Ytbggibdldadpiaa.n01
open Go.RowKit Go.K Go.Words
set_option linter.unusedVariables false
set_option linter.unusedSimpArgs false

def cmpI (x y : Int) : Int := if x < y then -1 else if y < x then 1 else 0
theorem cmpZ_pos (a b : Nat) : cmpI (a : Int) (b : Int) = cmpZ a b := by
  unfold cmpI cmpZ
  by_cases h : a < b
  · rw [if_pos (by omega), if_pos h]
  · by_cases h' : b < a
    · rw [if_neg (by omega), if_neg h, if_pos (by omega), if_pos h']
    · rw [if_neg (by omega), if_neg h, if_neg (by omega), if_neg h']
theorem cmpZ_neg (a b : Nat) : cmpI (-(a : Int)) (-(b : Int)) = cmpZ b a := by
  unfold cmpI cmpZ
  by_cases h : b < a
  · rw [if_pos (by omega), if_pos h]
  · by_cases h' : a < b
    · rw [if_neg (by omega), if_neg h, if_pos (by omega), if_pos h']
    · rw [if_neg (by omega), if_neg h, if_neg (by omega), if_neg h']
set_option maxHeartbeats 1000000 in
theorem cmp_any (gx gy : Nat) (x y : Int) (w : World) (hx : IntAt w gx x) (hy : IntAt w gy y) (bx : x.natAbs < pw 900) (by' : y.natAbs < pw 900) :
    Calls Try.prog 14 #[.pointer (some ⟨gx, 0, none⟩), .pointer (some ⟨gy, 0, none⟩)] w fun e w' => e = .returned (.int .i64 (cmpI x y)) ∧ Qt w w' := by
  obtain ⟨b1, a1, c1, l1, r1, s1, n1, le1, e1, q1⟩ := hx
  obtain ⟨b2, a2, c2, l2, r2, s2, n2, le2, e2, q2⟩ := hy
  have v1 : x.natAbs = val l1 := by rw [e1]; split <;> omega
  have v2 : y.natAbs = val l2 := by rw [e2]; split <;> omega
  have h1 := len_le l1 n1 900 (by rw [← v1]; exact bx)
  have h2 := len_le l2 n2 900 (by rw [← v2]; exact by')
  have x0 : w.cell? ⟨gx, 0, none⟩ = some (.bool b1) := by rw [cell_of_row _ _ _ _ _ _ r1]; rfl
  have x1 : w.cell? ⟨gx, 1, none⟩ = some (.slice a1 l1.length c1) := by rw [cell_of_row _ _ _ _ _ _ r1]; rfl
  have y0 : w.cell? ⟨gy, 0, none⟩ = some (.bool b2) := by rw [cell_of_row _ _ _ _ _ _ r2]; rfl
  have y1 : w.cell? ⟨gy, 1, none⟩ = some (.slice a2 l2.length c2) := by rw [cell_of_row _ _ _ _ _ _ r2]; rfl
  have K1 := Lib.hid (show ∀ W : World, Qt w W → Calls Try.prog 38 #[.slice a1 l1.length c1, .slice a2 l2.length c2] W fun e w' => e = .returned (.int .i64 (cmpZ (val l1) (val l2))) ∧ Qt w w' from
    fun W hW => (against_any a1 a2 c1 c2 l1 l2 W (hW.sl s1) (hW.sl s2) (by omega) (by omega) n1 n2).mono fun e w' ⟨he, hq⟩ => ⟨he, hW.trans hq⟩)
  have K2 := Lib.hid (show ∀ W : World, Qt w W → Calls Try.prog 38 #[.slice a2 l2.length c2, .slice a1 l1.length c1] W fun e w' => e = .returned (.int .i64 (cmpZ (val l2) (val l1))) ∧ Qt w w' from
    fun W hW => (against_any a2 a1 c2 c1 l2 l1 W (hW.sl s2) (hW.sl s1) (by omega) (by omega) n2 n1).mono fun e w' ⟨he, hq⟩ => ⟨he, hW.trans hq⟩)
  have Z1 := Lib.hid (val_zero l1 n1)
  have Z2 := Lib.hid (val_zero l2 n2)
  have E1 := Lib.hid e1
  have E2 := Lib.hid e2
  have Q1 := Lib.hid q1
  have Q2 := Lib.hid q2
  clear r1 s1 n1 le1 e1 q1 r2 s2 n2 le2 e2 q2 v1 v2 bx by'
  cases b1 <;> cases b2
  · have HZ := Lib.hid (show cmpI x y = cmpZ (val l1) (val l2) by rw [E1.out, E2.out]; exact cmpZ_pos _ _)
    go_enter Try.func14, Try.ntmps14
    go_wp2
    go_quiet (fail)
    generalize hW : w.drewN nq = W at *
    have HQ : Qt w W := hW ▸ Qt.drewN w nq
    have k0 := (HQ.cell ⟨gx, 0, none⟩).trans x0
    clear hW
    go_wp2
    refine wp_region_inv 9 (fun V => Qt w V) (by kernel_rfl) (by kernel_rfl) (fun n => HQ.trans ⟨n, rfl⟩) ?_
    simp only [List.take_succ_cons, List.take_zero]
    iterate 9
      apply wpInv_cons
      · rfl
      · intro Wx hw
        have k1 := (hw.cell ⟨gx, 1, none⟩).trans x1
        have k2 := (hw.cell ⟨gy, 1, none⟩).trans y1
        go_simp
        first
          | exact ⟨hw, rfl⟩
          | (show Calls _ _ _ _ _; with_reducible exact K1.out _ hw)
      simp only [Act.put, List.setIfInBounds_toArray, List.set_cons_zero, List.set_cons_succ]
    refine wpInv_nil fun V hw => ?_
    simp only [List.drop_succ_cons, List.drop_zero]
    go_wp2
    go_ret
    exact ⟨by rw [HZ.out]; rfl, hw⟩
  · have HZ := Lib.hid (show cmpI x y = 1 by
      have hp : val l2 ≠ 0 := fun h => absurd (Z2.out.1 h) (Q2.out rfl)
      rw [E1.out, E2.out]; unfold cmpI
      rw [if_neg (by simp <;> omega), if_pos (by simp <;> omega)])
    go_enter Try.func14, Try.ntmps14
    go_wp2
    go_quiet (fail)
    generalize hW : w.drewN nq = W at *
    have HQ : Qt w W := hW ▸ Qt.drewN w nq
    have k0 := (HQ.cell ⟨gx, 0, none⟩).trans x0
    clear hW
    go_wp2
    go_ret
    exact ⟨by rw [HZ.out]; rfl, HQ⟩
  · have HZ := Lib.hid (show cmpI x y = -1 by
      have hp : val l1 ≠ 0 := fun h => absurd (Z1.out.1 h) (Q1.out rfl)
      rw [E1.out, E2.out]; unfold cmpI
      rw [if_pos (by simp <;> omega)])
    go_enter Try.func14, Try.ntmps14
    go_wp2
    go_quiet (fail)
    generalize hW : w.drewN nq = W at *
    have HQ : Qt w W := hW ▸ Qt.drewN w nq
    have k0 := (HQ.cell ⟨gx, 0, none⟩).trans x0
    clear hW
    go_wp2
    go_ret
    exact ⟨by rw [HZ.out]; rfl, HQ⟩
  · have HZ := Lib.hid (show cmpI x y = cmpZ (val l2) (val l1) by rw [E1.out, E2.out]; exact cmpZ_neg _ _)
    go_enter Try.func14, Try.ntmps14
    go_wp2
    go_quiet (fail)
    generalize hW : w.drewN nq = W at *
    have HQ : Qt w W := hW ▸ Qt.drewN w nq
    have k0 := (HQ.cell ⟨gx, 0, none⟩).trans x0
    clear hW
    go_wp2
    refine wp_region_inv 9 (fun V => Qt w V) (by kernel_rfl) (by kernel_rfl) (fun n => HQ.trans ⟨n, rfl⟩) ?_
    simp only [List.take_succ_cons, List.take_zero]
    iterate 9
      apply wpInv_cons
      · rfl
      · intro Wx hw
        have k1 := (hw.cell ⟨gx, 1, none⟩).trans x1
        have k2 := (hw.cell ⟨gy, 1, none⟩).trans y1
        go_simp
        first
          | exact ⟨hw, rfl⟩
          | (show Calls _ _ _ _ _; with_reducible exact K2.out _ hw)
      simp only [Act.put, List.setIfInBounds_toArray, List.set_cons_zero, List.set_cons_succ]
    refine wpInv_nil fun V hw => ?_
    simp only [List.drop_succ_cons, List.drop_zero]
    go_wp2
    go_ret
    exact ⟨by rw [HZ.out]; rfl, hw⟩
end Go.Proofs.Ytbggibdldadpiaa.n01

