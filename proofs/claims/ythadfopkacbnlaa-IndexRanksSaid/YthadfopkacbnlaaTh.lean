/-
  Layer 18: the rank's closure.
-/
import Derived.Test.YthadfopkacbnlaaTa
import Derived.Test.YthadfopkacbnlaaSc
import Derived.Test.YthadfopkacbnlaaReg2
namespace Go.Proofs.Ythadfopkacbnlaa
open Go.RowKit Go.K
set_option linter.unusedVariables false
set_option linter.unusedSimpArgs false
attribute [local go_sem] run_store_float
theorem Ix.only {W W' : World} {g g' : Nat} {L : Nat → Ln} (h : Ix W g L) (ho : Only (fun k => k = g') W W') (hne : g ≠ g') : Ix W' g L := by
  obtain ⟨cur, hr, hs⟩ := h
  exact ⟨cur, (ho.block g (lt_row hr) hne).trans hr, hs⟩
def zfL (L : Nat → Ln) (x y : Nat) : Int := n03.ordV (L y).avg (L x).avg
set_option maxRecDepth 100000 in
set_option maxHeartbeats 4000000 in
theorem cmp_any (gx g cb lb : Nat) (L : Nat → Ln) (w : World) (h : Ix w gx L) (hr : w.heap[cb]? = some (.cells #[.pointer (some ⟨gx, 0, none⟩)] 24)) (h1 : cb ≠ g) (h2 : gx ≠ g) (hv : ∀ k, (L k).avg < 4294967296) : CmpC (zfL L) 16 g cb lb w := by
  intro V hV x y hx hy
  have hix := h.only hV h2
  have hcb : V.heap[cb]? = some (.cells #[.pointer (some ⟨gx, 0, none⟩)] 24) := (hV.block cb (lt_row hr) h1).trans hr
  have HF := Lib.hid (show ∀ W, Qt V W → W.cell? ⟨cb, 0, none⟩ = some (.pointer (some ⟨gx, 0, none⟩)) ∧ W.cell? ⟨gx, y * 21 + 1, none⟩ = some (.float .f32 (L y).avg) ∧ W.cell? ⟨gx, x * 21 + 1, none⟩ = some (.float .f32 (L x).avg) from fun W hW => by
    have hb := hW.below V.heap.size
    refine ⟨?_, ((hix.kept hb).five hy).2.1, ((hix.kept hb).five hx).2.1⟩
    rw [cell_of_row _ _ _ _ _ _ (row_kept hcb hb)]; rfl)
  have HO := Lib.hid (show ∀ W, Qt V W → Calls Try.prog 12 #[.float .f32 (L y).avg, .float .f32 (L x).avg] W fun r W' => r = .returned (.int .i64 (zfL L x y)) ∧ Qt V W' from fun W hW => (n03.order_any _ _ (hv y) (hv x) W).mono fun r W' hh => ⟨hh.1, hh.2 ▸ hW⟩)
  have ix : (x : Int) < 16 := by omega
  have iy : (y : Int) < 16 := by omega
  clear h hr hv hix hcb hV hx hy
  go_enter Try.func27, Try.ntmps27
  go_upto_region 1 with fail
  refine wp_region_inv2 17 (fun W => Qt V W) (by kernel_rfl) (by kernel_rfl) (fun m => ⟨m, rfl⟩) ?_
  simp only [List.take_succ_cons, List.take_zero]
  iterate 17
    apply wpInv_cons
    · rfl
    · intro Wx hw
      obtain ⟨j1, j2, j3⟩ := HF.out Wx hw
      first
        | (go_simp; exact ⟨hw, rfl⟩)
        | (go_simp; show Calls _ _ _ _ _; with_reducible exact HO.out _ hw)
    simp only [Act.put, List.setIfInBounds_toArray, List.set_cons_zero, List.set_cons_succ]
  refine wpInv_nil fun V3 hV => ?_
  simp only [List.drop_succ_cons, List.drop_zero]
  go_wp2
  go_ret
  exact ⟨rfl, hV⟩
end Go.Proofs.Ythadfopkacbnlaa
