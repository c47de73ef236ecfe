/-
  Layer 1: the document's numbers of any length: any two added, taken away; sums of lists.
-/
import Derived.Test.YtbggibdldadpiaaNwc
namespace Go.Proofs.Ytbggibdldadpiaa.n01
open Go.RowKit Go.K Go.Words
set_option linter.unusedVariables false
set_option linter.unusedSimpArgs false

set_option maxRecDepth 100000 in
set_option maxHeartbeats 1000000 in
theorem add_diff2 (gn gx gy : Nat) (b1 b2 : Bool) (a1 a2 : Option Addr) (c1 c2 : Nat) (l1 l2 : List (BitVec 32)) (w : World) (hn : IsInt w gn) (hx : Op1 w gx b1 a1 c1 l1) (hy : Op1 w gy b2 a2 c2 l2) (hb12 : (b1 == b2) = false) (hle : val l1 < val l2) :
    Calls Try.prog 35 #[.pointer (some ⟨gn, 0, none⟩), .pointer (some ⟨gx, 0, none⟩), .pointer (some ⟨gy, 0, none⟩)] w fun e w' => e = .returned (.pointer (some ⟨gn, 0, none⟩)) ∧ w.grownBy w' (some gn) ∧ IntP (w.heap.size ≤ ·) w' gn (sg b2 (val l2 - val l1)) := by
  have x0 := hx.c0
  have x1 := hx.c1
  have y0 := hy.c0
  have y1 := hy.c1
  have z1 := hx.sh
  have z2 := hy.sh
  have S1 := Lib.hid (show ∀ W : World, W.heap = w.heap → Sl W a1 (vW l1) from fun W h => sl_heap hx.sl h)
  have S2 := Lib.hid (show ∀ W : World, W.heap = w.heap → Sl W a2 (vW l2) from fun W h => sl_heap hy.sl h)
  have HI := Lib.hid (show ∀ W W1 : World, Below W.heap.size W W1 → W.heap = w.heap → IsInt W1 gn from fun W W1 hb h => (isInt_heap hn h).kept hb)
  have HL := Lib.hid (len_mono l1 l2 hx.nm (Nat.le_of_lt hle))
  have HLE := Lib.hid (Nat.le_of_lt hle)
  have N1 := Lib.hid hx.nm
  have N2 := Lib.hid hy.nm
  have t1 : decide (0 ≤ cmpZ (val l1) (val l2)) = false := decide_eq_false (by unfold cmpZ; rw [if_pos hle]; decide)
  have HN := Lib.hid hn
  clear hn hx hy hle
  go_enter Try.func35, Try.ntmps35
  go_wp2
  go_quiet (fail)
  go_wp2
  refine wp_region_inv 10 (fun W => Qt w W) (by kernel_rfl) (by kernel_rfl) (fun n => ⟨n, rfl⟩) ?_
  simp only [List.take_succ_cons, List.take_zero]
  iterate 10
    apply wpInv_cons
    · rfl
    · intro Wx hw
      have k1 := (hw.cell ⟨gx, 1, none⟩).trans x1
      have k2 := (hw.cell ⟨gy, 1, none⟩).trans y1
      go_simp
      first
        | exact ⟨hw, rfl⟩
        | (show Calls _ _ _ _ _; with_reducible exact (against_any a1 a2 c1 c2 l1 l2 _ (S1.out _ hw.heap) (S2.out _ hw.heap) (by omega) (by omega) N1.out N2.out).mono (fun e w' ⟨he, hq⟩ => ⟨he, hw.trans hq⟩))
    simp only [Act.put, List.setIfInBounds_toArray, List.set_cons_zero, List.set_cons_succ]
  refine wpInv_nil fun W hw => ?_
  simp only [List.drop_succ_cons, List.drop_zero]
  have k0 := (hw.cell ⟨gy, 0, none⟩).trans y0
  have k1 := (hw.cell ⟨gx, 1, none⟩).trans x1
  have k2 := (hw.cell ⟨gy, 1, none⟩).trans y1
  have S1' := Lib.hid (show ∀ V : World, V.heap = W.heap → Sl V a1 (vW l1) from fun V h => S1.out V (h.trans hw.heap))
  have S2' := Lib.hid (show ∀ V : World, V.heap = W.heap → Sl V a2 (vW l2) from fun V h => S2.out V (h.trans hw.heap))
  have HI' := Lib.hid (show ∀ V W1 : World, Below V.heap.size V W1 → V.heap = W.heap → IsInt W1 gn from fun V W1 hb h => HI.out V W1 hb (h.trans hw.heap))
  have HQ := Lib.hid hw
  clear x0 x1 y0 y1 S1 S2 HI hw
  go_wp2
  go_region_with
    (first
      | (go_at_call 58; refine (minus_any a2 a1 c2 c1 l2 l1 _ ?_ ?_ ?_ ?_ ?_ ?_).mono ?_; exact S2'.out _ rfl; exact S1'.out _ rfl; omega; omega; exact HL.out; exact HLE.out; rintro e w1 ⟨ad, cap, o, rfl, hcap, hnm, hv, hso, hb⟩; have x05 := below_cell hb (a := ⟨gy, 0, none⟩) (v := .bool b2) (by go_keep))
      | (go_at_call 56; refine (signed_any gn b2 ad o.length cap _ ?_).mono ?_; exact HI'.out _ _ hb rfl; rintro e w2 ⟨rfl, hgr, hrow⟩))
  all_goals
    have G1 := Lib.hid hb
    have G2 := Lib.hid hgr
    have G3 := Lib.hid hrow
    have G4 := Lib.hid hso
    have G5 := Lib.hid hnm
    have G6 := Lib.hid hv
    clear hb hgr hrow hso hnm hv
    go_wp2
    go_ret
    exact ⟨rfl, add_fin G1.out G2.out G3.out G4.out G5.out hcap HN.out (by rw [G6.out]) (HQ.out.trans ⟨_, rfl⟩)⟩
theorem add_new (gn gx gy : Nat) (x y : Int) (w : World) (hn : IsInt w gn) (hx : IntAt w gx x) (hy : IntAt w gy y) (bx : x.natAbs < pw 900) (by' : y.natAbs < pw 900) :
    Calls Try.prog 35 #[.pointer (some ⟨gn, 0, none⟩), .pointer (some ⟨gx, 0, none⟩), .pointer (some ⟨gy, 0, none⟩)] w fun e w' => e = .returned (.pointer (some ⟨gn, 0, none⟩)) ∧ w.grownBy w' (some gn) ∧ IntP (w.heap.size ≤ ·) w' gn (x + y) := by
  obtain ⟨b1, a1, c1, l1, o1, e1, v1⟩ := hx.open bx
  obtain ⟨b2, a2, c2, l2, o2, e2, v2⟩ := hy.open by'
  by_cases hb : b1 = b2
  · subst hb
    refine (add_same gn gx gy b1 a1 a2 c1 c2 l1 l2 w hn o1 o2).mono fun e w' ⟨h1, h2, h3⟩ => ⟨h1, h2, ?_⟩
    have : x + y = sg b1 (val l1 + val l2) := by rw [e1, e2]; unfold sg; split <;> omega
    rw [this]; exact h3
  · have hb' : (b1 == b2) = false := by simpa using hb
    by_cases hle : val l2 ≤ val l1
    · refine (add_diff gn gx gy b1 b2 a1 a2 c1 c2 l1 l2 w hn o1 o2 hb' hle).mono fun e w' ⟨h1, h2, h3⟩ => ⟨h1, h2, ?_⟩
      have : x + y = sg b1 (val l1 - val l2 : Nat) := by
        rw [e1, e2]; unfold sg
        cases b1 <;> cases b2 <;> simp at hb ⊢ <;> omega
      rw [this]; exact h3
    · refine (add_diff2 gn gx gy b1 b2 a1 a2 c1 c2 l1 l2 w hn o1 o2 hb' (by omega)).mono fun e w' ⟨h1, h2, h3⟩ => ⟨h1, h2, ?_⟩
      have : x + y = sg b2 (val l2 - val l1 : Nat) := by
        rw [e1, e2]; unfold sg
        cases b1 <;> cases b2 <;> simp at hb ⊢ <;> omega
      rw [this]; exact h3
theorem add_any (gn gx gy : Nat) (x y : Int) (w : World) (hn : IsInt w gn) (hx : IntAt w gx x) (hy : IntAt w gy y) (bx : x.natAbs < pw 900) (by' : y.natAbs < pw 900) :
    Calls Try.prog 35 #[.pointer (some ⟨gn, 0, none⟩), .pointer (some ⟨gx, 0, none⟩), .pointer (some ⟨gy, 0, none⟩)] w fun e w' => e = .returned (.pointer (some ⟨gn, 0, none⟩)) ∧ w.grownBy w' (some gn) ∧ IntAt w' gn (x + y) :=
  (add_new gn gx gy x y w hn hx hy bx by').mono fun e w' ⟨h1, h2, h3⟩ => ⟨h1, h2, h3.at'⟩
end Go.Proofs.Ytbggibdldadpiaa.n01

