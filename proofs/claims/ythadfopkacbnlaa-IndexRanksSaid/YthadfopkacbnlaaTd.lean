/-
  Layer 18: a swing of a kind's day.
-/
import Derived.Test.YthadfopkacbnlaaTc
import Derived.Test.YthadfopkacbnlaaReg2
namespace Go.Proofs.Ythadfopkacbnlaa
open Go.RowKit Go.K
set_option linter.unusedVariables false
set_option linter.unusedSimpArgs false
attribute [local go_sem] run_store_float
theorem root2 : n03.sqV 1073741824 = 1068827891 := by decide +kernel
theorem part2 : n03.opW (Ieee.single.div 1065353216 1068827891) = 1060439283 := by decide +kernel
theorem neg2 : Op.negFloat .f32 1060439283 = 3207922931 := by decide +kernel
theorem neg_run (W : World) : (Op.unary UnOp.neg (.float .f32 1060439283)).run Try.prog W = .ok (.float .f32 3207922931) W := by
  show (pure (Value.float .f32 (Op.negFloat .f32 1060439283)) : Sem Value).run Try.prog W = _
  rw [neg2]; rfl
attribute [local go_sem] neg_run
def e0 : Nat → Nat | 0 => 1065353216 | 1 => 1060439283 | 2 => 0 | 3 => 3207922931 | 4 => 3212836864 | 5 => 3207922931 | 6 => 0 | 7 => 1060439283 | _ => 0
def e1 : Nat → Nat | 0 => 0 | 1 => 3207922931 | 2 => 3212836864 | 3 => 3207922931 | 4 => 0 | 5 => 1060439283 | 6 => 1065353216 | 7 => 1060439283 | _ => 0
def E16 : Array Value := #[.float .f32 1065353216, .float .f32 0, .float .f32 1060439283, .float .f32 3207922931, .float .f32 0, .float .f32 3212836864, .float .f32 3207922931, .float .f32 3207922931, .float .f32 3212836864, .float .f32 0, .float .f32 3207922931, .float .f32 1060439283, .float .f32 0, .float .f32 1065353216, .float .f32 1060439283, .float .f32 1060439283]
theorem index_run (x : Ln) {t : Nat} (ht : t < 8) (W : World) : (Instr.index 57 (.agg #[.float .f32 (x.day 0), .float .f32 (x.day 1), .float .f32 (x.day 2), .float .f32 (x.day 3), .float .f32 (x.day 4), .float .f32 (x.day 5), .float .f32 (x.day 6), .float .f32 (x.day 7)]) (.int .i64 (t : Int))).run Try.prog W = .ok (.float .f32 (x.day t)) W := by
  have h8 : t = 0 ∨ t = 1 ∨ t = 2 ∨ t = 3 ∨ t = 4 ∨ t = 5 ∨ t = 6 ∨ t = 7 := by omega
  rcases h8 with rfl | rfl | rfl | rfl | rfl | rfl | rfl | rfl <;> first | (go_simp; done) | simp [Instr.index, asIntOf, part, isAgg]
theorem e16 {j : Nat} (h : j < 8) : E16[j * 2]? = some (.float .f32 (e0 j)) ∧ E16[j * 2 + 1]? = some (.float .f32 (e1 j)) := by
  match j, h with
  | 0, _ => exact ⟨rfl, rfl⟩
  | 1, _ => exact ⟨rfl, rfl⟩
  | 2, _ => exact ⟨rfl, rfl⟩
  | 3, _ => exact ⟨rfl, rfl⟩
  | 4, _ => exact ⟨rfl, rfl⟩
  | 5, _ => exact ⟨rfl, rfl⟩
  | 6, _ => exact ⟨rfl, rfl⟩
  | 7, _ => exact ⟨rfl, rfl⟩
theorem and7 (m : Nat) (hm : m < 64) : bits .and .i64 (m : Int) 7 = ((m % 8 : Nat) : Int) := by
  have h : ∀ m : Fin 64, bits .and .i64 ((m.val : Nat) : Int) 7 = ((m.val % 8 : Nat) : Int) := by decide +kernel
  exact h ⟨m, hm⟩
def addM (s d e : Nat) : Nat := n03.opW (Ieee.single.add s (n03.opW (Ieee.single.mul d e)))
def reV (day : Nat → Nat) (q : Nat) : Nat → Nat | 0 => 0 | t + 1 => addM (reV day q t) (day t) (e0 (q * t % 8))
def imV (day : Nat → Nat) (q : Nat) : Nat → Nat | 0 => 0 | t + 1 => addM (imV day q t) (day t) (e1 (q * t % 8))
set_option maxRecDepth 100000 in
set_option maxHeartbeats 4000000 in
theorem swing_any (g k q : Nat) (kk : Int) (L : Nat → Ln) (w : World) (hk : k < 16) (hq : q < 8) (hkk : bits .and .i64 kk 7 = (q : Int)) (R I : Nat) (hR : floatBits .add .f32 (reV (L k).day q 8) 0 = some R) (hI : floatBits .add .f32 (imV (L k).day q 8) 0 = some I) (h : Ix w g L) :
    Calls Try.prog 24 #[.pointer (some ⟨g, 0, none⟩), .int .i64 (k : Int), .int .i64 kk] w fun r w' => r = .returned (.tuple #[.complex .f32 R I, .int .i64 0]) ∧ Below w.heap.size w w' := by
  have H := Lib.hid h
  have HR := Lib.hid hR
  have HI := Lib.hid hI
  have HKK := Lib.hid hkk
  clear h hR hI hkk
  go_enter Try.func24, Try.ntmps24
  go_wp2_with fail
  refine (of_any g k _ hk).mono ?_
  rintro r0 w1 ⟨rfl, rfl⟩
  go_wp2_with fail
  refine (n03.psqrt_any 1073741824 (by decide) w).mono ?_
  rintro r0 w1 ⟨rfl, hq1⟩
  rw [root2]
  have HB1 := Lib.hid (hq1.below w.heap.size)
  clear hq1
  go_wp2_with fail
  refine (n03.pdiv_any 1065353216 1068827891 w1).mono ?_
  rintro r0 w2 ⟨rfl, hq2⟩
  rw [part2]
  have HB2 := Lib.hid (HB1.out.trans (hq2.below w.heap.size))
  clear hq2
  go_upto_region 7 with fail
  refine wp_world (fun W => Below w.heap.size w W ∧ W.heap[w2.heap.size]? = some (.cells E16 95)) ⟨HB2.out.alloc HB2.out.size _, alloc_at rfl⟩ ?_
  rintro w3 ⟨hb3, he3⟩
  have HB3 := Lib.hid hb3
  have HE3 := Lib.hid he3
  have hA := H.out.kept HB3.out
  have c0 := (hA.dayc hk (j := 0) (by decide)).1
  have c1 := (hA.dayc hk (j := 1) (by decide)).1
  have c2 := (hA.dayc hk (j := 2) (by decide)).1
  have c3 := (hA.dayc hk (j := 3) (by decide)).1
  have c4 := (hA.dayc hk (j := 4) (by decide)).1
  have c5 := (hA.dayc hk (j := 5) (by decide)).1
  have c6 := (hA.dayc hk (j := 6) (by decide)).1
  have c7 := (hA.dayc hk (j := 7) (by decide)).1
  rw [Nat.add_zero] at c0
  clear hA
  clear hb3 he3
  go_wp2_with fail
  go_loopw [12, 13, 14, 15, 16, 53] (fun s12 s13 s14 s15 s16 i V => ∃ t : Nat, t ≤ 8 ∧ i = .int .i64 t ∧ s12 = .float .f32 (reV (L k).day q t) ∧ s13 = .float .f32 (imV (L k).day q t) ∧ Below w.heap.size w V ∧ V.heap[w2.heap.size]? = some (.cells E16 95)) (fun _ _ _ _ _ i _ => 8 - (intOf i).toNat)
  case atStart => exact ⟨0, by omega, rfl, rfl, rfl, HB3.out, HE3.out⟩
  case round =>
    clear c0 c1 c2 c3 c4 c5 c6 c7
    obtain ⟨t, ht, rfl, rfl, rfl, hb, he⟩ := hrel
    have HB := Lib.hid hb
    have HE := Lib.hid he
    clear hb he
    by_cases hlt : t < 8
    · have hkk := HKK.out
      have hqt : q * t < 64 := by
        have := Nat.mul_le_mul (show q ≤ 7 by omega) (show t ≤ 7 by omega)
        omega
      have hm : IntKind.i64.wrap ((q : Int) * (t : Int)) = ((q * t : Nat) : Int) := by rw [IntKind.wrap_i64, Int.natCast_mul]; omega
      have hbb : bits .and .i64 ((q * t : Nat) : Int) 7 = ((q * t % 8 : Nat) : Int) := and7 _ hqt
      have hj : q * t % 8 < 8 := Nat.mod_lt _ (by decide)
      obtain ⟨j, hje⟩ : ∃ j, j = q * t % 8 := ⟨_, rfl⟩
      rw [← hje] at hbb hj
      obtain ⟨m, hme⟩ : ∃ m, m = q * t := ⟨_, rfl⟩
      rw [← hme] at hbb hm
      have HJ := Lib.hid hje
      have ti : IntKind.i64.wrap ((t : Int) + 1) = ((t + 1 : Nat) : Int) := by rw [IntKind.wrap_i64]; omega
      have HT := Lib.hid hlt
      have hix := index_run (L k) hlt
      obtain ⟨d, hd⟩ : ∃ d, d = (L k).day t := ⟨_, rfl⟩
      rw [← hd] at hix
      have HDY := Lib.hid hd
      have tlt : decide ((t : Int) < 8) = true := by simp; omega
      have z0 : wr.cell? ⟨w2.heap.size, j * 2, none⟩ = some (.float .f32 (e0 j)) := by rw [cell_of_row _ _ _ _ _ _ HE.out]; exact (e16 hj).1
      have z1 : wr.cell? ⟨w2.heap.size, j * 2 + 1, none⟩ = some (.float .f32 (e1 j)) := by rw [cell_of_row _ _ _ _ _ _ HE.out]; exact (e16 hj).2
      have ji : (j : Int) < 8 := by omega
      clear hlt hje hqt hme hd ht
      go_upto_region 11 with fail
      refine wp_world (fun W => Below w.heap.size w W ∧ W.heap[w2.heap.size]? = some (.cells E16 95) ∧ W.heap[wr.heap.size]? = some (.cells #[.float .f32 (e0 j), .float .f32 (e1 j)] 94)) ⟨HB.out.alloc HB.out.size _, alloc_old HE.out, alloc_at rfl⟩ ?_
      rintro w4 ⟨hb4, he4, hu4⟩
      clear z0 z1
      have HC := Lib.hid (show ∀ V V' : World, (Below w.heap.size w V ∧ V.heap[w2.heap.size]? = some (.cells E16 95) ∧ V.heap[wr.heap.size]? = some (.cells #[.float .f32 (e0 j), .float .f32 (e1 j)] 94)) → Qt V V' → (Below w.heap.size w V' ∧ V'.heap[w2.heap.size]? = some (.cells E16 95) ∧ V'.heap[wr.heap.size]? = some (.cells #[.float .f32 (e0 j), .float .f32 (e1 j)] 94)) from fun V V' h hq => ⟨h.1.trans (hq.below _), row_kept h.2.1 (hq.below _), row_kept h.2.2 (hq.below _)⟩)
      obtain ⟨re, hre⟩ : ∃ re, re = reV (L k).day q t := ⟨_, rfl⟩
      obtain ⟨im, him⟩ : ∃ im, im = imV (L k).day q t := ⟨_, rfl⟩
      rw [← hre, ← him]
      have HRI := Lib.hid (And.intro hre him)
      clear hre him
      refine wp_region_inv2 14 (fun W => Below w.heap.size w W ∧ W.heap[w2.heap.size]? = some (.cells E16 95) ∧ W.heap[wr.heap.size]? = some (.cells #[.float .f32 (e0 j), .float .f32 (e1 j)] 94)) (by kernel_rfl) (by kernel_rfl) (fun m => ⟨hb4.trans (below_drawn (Below.refl _ _) m), he4, hu4⟩) ?_
      clear hb4 he4 hu4
      simp only [List.take_succ_cons, List.take_zero]
      iterate 14
        apply wpInv_cons
        · rfl
        · intro Wx hw
          have x0 : Wx.cell? ⟨wr.heap.size, 0, none⟩ = some (.float .f32 (e0 j)) := by rw [cell_of_row _ _ _ _ _ _ hw.2.2]; rfl
          have x1 : Wx.cell? ⟨wr.heap.size, 1, none⟩ = some (.float .f32 (e1 j)) := by rw [cell_of_row _ _ _ _ _ _ hw.2.2]; rfl
          first
            | (go_simp; exact ⟨hw, rfl⟩)
            | (go_simp; show Calls _ _ _ _ _; exact (n03.pmul_any _ _ _).mono fun r V' h => ⟨h.1, HC.out _ _ hw h.2⟩)
            | (go_simp; show Calls _ _ _ _ _; exact (n03.padd_any _ _ _).mono fun r V' h => ⟨h.1, HC.out _ _ hw h.2⟩)
        simp only [Act.put, List.setIfInBounds_toArray, List.set_cons_zero, List.set_cons_succ]
      refine wpInv_nil fun V3 hV => ?_
      have HV3 := Lib.hid hV
      clear hV
      simp only [List.drop_succ_cons, List.drop_zero]
      have HR1 := Lib.hid (show n03.opW (Ieee.single.add re (n03.opW (Ieee.single.mul d (e0 j)))) = reV (L k).day q (t + 1) from by rw [HRI.out.1, HDY.out, HJ.out]; rfl)
      have HI1 := Lib.hid (show n03.opW (Ieee.single.add im (n03.opW (Ieee.single.mul d (e1 j)))) = imV (L k).day q (t + 1) from by rw [HRI.out.2, HDY.out, HJ.out]; rfl)
      go_wp2
      go_roundw
      case rel => exact ⟨t + 1, HT.out, by go_num, by rw [HR1.out], by rw [HI1.out], HV3.out.1, HV3.out.2.1⟩
      case measure => have := HT.out; simp only [intOf]; omega
    · have h8 : t = 8 := by omega
      subst h8
      have r1 := fun W : World => run_float_arith (P := Try.prog) W .add 29 .f32 (reV (L k).day q 8) 0 R HR.out
      have r2 := fun W : World => run_float_arith (P := Try.prog) W .add 29 .f32 (imV (L k).day q 8) 0 I HI.out
      go_wp2
      go_ret2
      exact ⟨rfl, HB.out⟩
end Go.Proofs.Ythadfopkacbnlaa
