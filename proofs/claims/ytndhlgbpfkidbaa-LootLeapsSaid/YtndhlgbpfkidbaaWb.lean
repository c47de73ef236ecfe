/-
  Layer 6: the document's dice, walked.
-/
import Derived.Test.YtndhlgbpfkidbaaWa
import Derived.Test.YtndhlgbpfkidbaaGen
namespace Go.Proofs.Ytndhlgbpfkidbaa
open Go.RowKit Go.K Go.Dice
set_option linter.unusedVariables false
set_option linter.unusedSimpArgs false

def dAgg (s a : BitVec 64) : Value := .agg #[.int .u64 (U64 s), .int .u64 (U64 a)]
theorem turn_x (s : BitVec 64) : U64 s / (576460752303423488 : Int) = (((s >>> 59).toNat : Nat) : Int) := by
  rw [show (576460752303423488 : Int) = ((2 ^ 59 : Nat) : Int) from rfl, shr_U64]; rfl
theorem shl32_x (x : BitVec 32) (k : Nat) : U32 x * 2 ^ k % (4294967296 : Int) = U32 (x <<< k) := by
  rw [← shl_U32 x k]
  unfold U32
  rw [BitVec.toNat_ofInt]
  have e : (2 : Int) ^ k = ((2 ^ k : Nat) : Int) := by simp
  rw [e]
  omega
theorem shr32_x (x : BitVec 32) (k : Nat) : U32 x / 2 ^ k = U32 (x >>> k) := by
  rw [← shr_U32 x k]; simp
theorem or32_x (x y : BitVec 32) : bits .or .u32 (U32 x) (U32 y) = U32 (x ||| y) := by
  rw [or_U32, U32_ofInt, U32_ofInt]
theorem dword_zero (s : BitVec 64) (h : (s >>> 59).toNat = 0) : dword s = ((((s >>> 18) ^^^ s) >>> 27).setWidth 32) := by
  unfold dword
  rw [h]
  generalize ((((s >>> 18) ^^^ s) >>> 27).setWidth 32 : BitVec 32) = x
  have e2 : x <<< (32 : Nat) = 0#32 := by
    apply BitVec.eq_of_toNat_eq; rw [BitVec.toNat_shiftLeft, Nat.shiftLeft_eq]; simp
  show x >>> (0 : Nat) ||| x <<< (32 : Nat) = x
  rw [e2]; simp
theorem rword_any (s a : BitVec 64) (w : World) :
    Calls Try.prog 13 #[dAgg s a] w fun e w' => e = .returned (.tuple #[.int .u32 (U32 (dword s)), dAgg (dstep a s) a]) ∧ Below w.heap.size w w' := by
  have hX := word_x s
  have hT := turn_x s
  have hS := step_x s a
  have hr := shr59_lt s
  have HD := Lib.hid (dword_zero s)
  have HE := Lib.hid (show dword s = (((((s >>> 18) ^^^ s) >>> 27).setWidth 32) >>> (s >>> 59).toNat) ||| (((((s >>> 18) ^^^ s) >>> 27).setWidth 32) <<< (32 - (s >>> 59).toNat)) from rfl)
  generalize (s >>> 59).toNat = r at hT hr HD HE
  generalize ((((s >>> 18) ^^^ s) >>> 27).setWidth 32 : BitVec 32) = x at hX HD HE
  generalize dstep a s = s' at *
  have hO := or32_x (x >>> r) (x <<< (32 - r))
  have hL := shl32_x x (32 - r)
  have hR := shr32_x x r
  have key : ∀ (a0 a5 : Value) (t : Array Value), True := fun _ _ _ => trivial
  clear key
  by_cases h0 : r = 0
  case' pos =>
    have t0 : decide (0 < (r : Int)) = false := by simp; omega
    have t1 : ¬ 0 < r := by omega
    have HV := Lib.hid (show U32 x = U32 (dword s) by rw [HD.out h0])
  case' neg =>
    have t0 : decide (0 < (r : Int)) = true := by simp; omega
    have t1 : 0 < r := by omega
    have HV := Lib.hid (show U32 (x >>> r ||| x <<< (32 - r)) = U32 (dword s) by rw [HE.out])
  all_goals
    clear HD HE h0
    unfold dAgg
    go_enter Try.func13, Try.ntmps13
    go_wp2
    refine wp_world (fun W => Below w.heap.size w W ∧ W.heap[w.heap.size]? = some (.cells #[.int .u64 (U64 s), .int .u64 (U64 a)] 28) ∧ W.heap[w.heap.size + 1]? = some (.cells #[.int .u64 0, .int .u64 0] 28))
      ⟨((Below.refl _ _).alloc (Nat.le_refl _) _).alloc (by simp) _, alloc_old (alloc_at rfl), alloc_at (by simp)⟩ ?_
    intro W1 ⟨q1, q2, q3⟩
    refine wp_region_inv 11 (fun W => Below w.heap.size w W ∧ W.heap[w.heap.size]? = some (.cells #[.int .u64 (U64 s), .int .u64 (U64 a)] 28) ∧ W.heap[w.heap.size + 1]? = some (.cells #[.int .u64 0, .int .u64 0] 28)) (by kernel_rfl) (by kernel_rfl) (fun _ => ⟨below_drawn q1 _, q2, q3⟩) ?_
    clear q1 q2 q3
    simp only [List.take_succ_cons, List.take_zero]
    iterate 11
      apply wpInv_cons
      · rfl
      · intro Wx hw
        have h0 : Wx.cell? ⟨w.heap.size, 0, none⟩ = some (.int .u64 (U64 s)) := by rw [cell_of_row _ _ _ _ _ _ hw.2.1]; rfl
        have h1 : Wx.cell? ⟨w.heap.size, 1, none⟩ = some (.int .u64 (U64 a)) := by rw [cell_of_row _ _ _ _ _ _ hw.2.1]; rfl
        go_simp
        exact ⟨hw, rfl⟩
      simp only [Act.put, List.setIfInBounds_toArray, List.set_cons_zero, List.set_cons_succ]
    refine wpInv_nil fun W hw => ?_
    simp only [List.drop_succ_cons, List.drop_zero]
    obtain ⟨hb, hg0, hg1⟩ := hw
    have f0 := frozen_of_row _ _ 0 _ _ hg1
    have f1 := frozen_of_row _ _ 1 _ _ hg1
    have c0 : W.cell? ⟨w.heap.size + 1, 0, none⟩ = some (.int .u64 0) := by rw [cell_of_row _ _ _ _ _ _ hg1]; rfl
    have c1 : W.cell? ⟨w.heap.size + 1, 1, none⟩ = some (.int .u64 0) := by rw [cell_of_row _ _ _ _ _ _ hg1]; rfl
    have HB := Lib.hid hb
    have HG := Lib.hid hg1
    clear hb hg0 hg1
    go_wp2
    refine bodyPost_ret (v := .tuple #[.int .u32 (U32 (dword s)), .agg #[.int .u64 (U64 s'), .int .u64 (U64 a)]]) ?_ rfl ⟨rfl, (HB.out.setCell (by simp) _).setCell (by simp) _⟩
    simp [results, Try.results13, go_sem, c0, c1, HV.out]
theorem mulF_x (x : BitVec 64) : IntKind.u64.wrap (U64 x * 6364136223846793005) = U64 (x * F) := by
  rw [wrap_U64, ofInt_mul64, U64_ofInt]; rfl
theorem half1_x (x : BitVec 64) : IntKind.u64.wrap ((U64 x).tdiv 2) = U64 (x >>> 1) := by
  rw [tdiv_U64_2, wrap_U64, U64_ofInt]
theorem odd_x (x : BitVec 64) : (U64 x).tmod 2 = ((x.toNat % 2 : Nat) : Int) := by
  rw [Int.tmod_eq_emod_of_nonneg (U64_lo x)]; unfold U64; rfl
set_option maxRecDepth 100000 in
theorem steps_any (a : BitVec 64) : ∀ (m : Nat) (x : BitVec 64) (w : World), x.toNat ≤ m →
    Calls Try.prog 40 #[.int .u64 (U64 a), .int .u64 (U64 x)] w fun e w' => e = .returned (.tuple #[.int .u64 (U64 (Fp x.toNat)), .int .u64 (U64 (Xp a x.toNat))]) ∧ w = w' := by
  intro m
  induction m with
  | zero =>
    intro x w hx
    have h0 : x.toNat = 0 := by omega
    have t0 : (U64 x == 0) = true := by unfold U64; rw [h0]; rfl
    have HX := Lib.hid h0
    clear h0 hx
    go_enter Try.func40, Try.ntmps40
    go_wp2
    go_ret2
    exact ⟨by rw [HX.out]; rfl, rfl⟩
  | succ m ih =>
    intro x w hx
    by_cases h0 : x.toNat = 0
    · have t0 : (U64 x == 0) = true := by unfold U64; rw [h0]; rfl
      have HX := Lib.hid h0
      clear h0 hx ih
      go_enter Try.func40, Try.ntmps40
      go_wp2
      go_ret2
      exact ⟨by rw [HX.out]; rfl, rfl⟩
    · have t0 : (U64 x == 0) = false := beq_eq_false_iff_ne.2 (by unfold U64; omega)
      have hh := half1_x x
      have hxh : (x >>> 1).toNat = x.toNat / 2 := by rw [BitVec.toNat_ushiftRight, Nat.shiftRight_eq_div_pow]
      obtain ⟨y, hy⟩ : ∃ y, y = (x >>> 1).toNat := ⟨_, rfl⟩
      have IH := Lib.hid (show ∀ w, Calls Try.prog 40 #[.int .u64 (U64 a), .int .u64 (U64 (x >>> 1))] w fun e w' => e = .returned (.tuple #[.int .u64 (U64 (Fp y)), .int .u64 (U64 (Xp a y))]) ∧ w = w' from
        fun w => by rw [hy]; exact ih (x >>> 1) w (by omega))
      rw [← hy] at hxh
      have HH := Lib.hid hxh
      have hb := odd_x x
      have e1 := mul_x (Fp y) (Fp y)
      have e2 := muladd_x (Xp a y) (Fp y) (Xp a y)
      rw [← Fp_even] at e1
      rw [← Xp_even] at e2
      have e3 := mulF_x (Fp (2 * y))
      have e4 := step_x (Xp a (2 * y)) a
      clear ih hx h0 hxh hy
      rcases Nat.mod_two_eq_zero_or_one x.toNat with h | h
      · have hf : x.toNat = 2 * y := by rw [HH.out]; omega
        rw [h] at hb
        have HF1 := Lib.hid (congrArg Fp hf)
        have HF2 := Lib.hid (congrArg (Xp a) hf)
        clear h hf
        go_enter Try.func40, Try.ntmps40
        go_wp2_with (go_at_call 40; refine (IH.out _).mono ?_; rintro e w1 ⟨rfl, rfl⟩)
        go_ret2
        exact ⟨by rw [HF1.out, HF2.out]; rfl, rfl⟩
      · have hf : x.toNat = 2 * y + 1 := by rw [HH.out]; omega
        rw [h] at hb
        have HF1 := Lib.hid (show Fp x.toNat = Fp (2 * y) * F from congrArg Fp hf)
        have HF2 := Lib.hid (show Xp a x.toNat = dstep a (Xp a (2 * y)) from congrArg (Xp a) hf)
        clear h hf
        go_enter Try.func40, Try.ntmps40
        go_wp2_with (go_at_call 40; refine (IH.out _).mono ?_; rintro e w1 ⟨rfl, rfl⟩)
        go_ret2
        exact ⟨by rw [HF1.out, HF2.out]; rfl, rfl⟩
theorem rskip_any (s a x : BitVec 64) (w : World) :
    Calls Try.prog 17 #[dAgg s a, .int .u64 (U64 x)] w fun e w' => e = .returned (dAgg (diter a s x.toNat) a) ∧ Below w.heap.size w w' := by
  have e1 := muladd_x s (Fp x.toNat) (Xp a x.toNat)
  rw [← iter_eq] at e1
  have HS := Lib.hid (steps_any a x.toNat x)
  unfold dAgg
  go_enter Try.func17, Try.ntmps17
  go_wp2_with (go_at_call 40; refine (HS.out _ (Nat.le_refl _)).mono ?_; rintro e w1 ⟨rfl, rfl⟩)
  refine bodyPost_ret (v := .agg #[.int .u64 (U64 (diter a s x.toNat)), .int .u64 (U64 a)]) ?_ rfl ⟨rfl, ?_⟩
  · simp [results, Try.results17, go_sem]
  · exact ((Below.refl _ _).alloc (Nat.le_refl _) _).alloc (by simp) _
theorem rnew_any (seed stream : BitVec 64) (w : World) : Calls Try.prog 12 #[.int .u64 (U64 seed), .int .u64 (U64 stream)] w fun e w' => e = .returned (dAgg (newS seed stream) (seedA stream)) ∧ Below w.heap.size w w' := by
  go_enter Try.func12, Try.ntmps12
  go_wp2_with fail
  rw [seedA_x, show (0 : Int) = U64 0#64 from rfl]
  refine (rword_any _ _ _).mono ?_
  rintro e w1 ⟨rfl, hb⟩
  have hz := hb.size
  have hz1 : w.heap.size < w1.heap.size := by simp at hz; omega
  have c0 : w1.cell? ⟨w.heap.size, 0, none⟩ = some (.int .u64 0) := by
    rw [cell_of_row _ _ _ _ _ _ (row_kept (alloc_at rfl) hb)]; rfl
  have c1 : w1.cell? ⟨w.heap.size, 1, none⟩ = some (.int .u64 0) := by
    rw [cell_of_row _ _ _ _ _ _ (row_kept (alloc_at rfl) hb)]; rfl
  have f0 := frozen_of_row _ _ 0 _ _ (row_kept (alloc_at (n := w.heap.size) rfl) hb)
  have f1 := frozen_of_row _ _ 1 _ _ (row_kept (alloc_at (n := w.heap.size) rfl) hb)
  have HG := Lib.hid (row_kept (alloc_at (n := w.heap.size) rfl) hb)
  have HB := Lib.hid (((Below.refl _ _).alloc (Nat.le_refl _) _).trans (hb.mono (by simp)))
  have e1 := add_x (dstep (seedA stream) 0#64) seed
  clear hb hz
  unfold dAgg
  go_wp2_with fail
  refine (rword_any _ _ _).mono ?_
  rintro e w2 ⟨rfl, hb⟩
  have hz := hb.size
  have hz2 : w.heap.size < w2.heap.size := by simp at hz; omega
  have hz3 : w1.heap.size < w2.heap.size := by simp at hz; omega
  have HG1 := Lib.hid (row_kept (alloc_old HG.out) hb)
  have c0 : w2.cell? ⟨w.heap.size, 0, none⟩ = some (.int .u64 0) := by rw [cell_of_row _ _ _ _ _ _ HG1.out]; rfl
  have c1 : w2.cell? ⟨w.heap.size, 1, none⟩ = some (.int .u64 0) := by rw [cell_of_row _ _ _ _ _ _ HG1.out]; rfl
  have f0 := frozen_of_row _ _ 0 _ _ HG1.out
  have f1 := frozen_of_row _ _ 1 _ _ HG1.out
  have HG2 := Lib.hid (row_kept (alloc_at (n := w1.heap.size) rfl) hb)
  have d0 : w2.cell? ⟨w1.heap.size, 0, none⟩ = some (.int .u64 (U64 (dstep (seedA stream) 0#64 + seed))) := by rw [cell_of_row _ _ _ _ _ _ HG2.out]; rfl
  have d1 : w2.cell? ⟨w1.heap.size, 1, none⟩ = some (.int .u64 (U64 (seedA stream))) := by rw [cell_of_row _ _ _ _ _ _ HG2.out]; rfl
  have g0 := frozen_of_row _ _ 0 _ _ HG2.out
  have g1 := frozen_of_row _ _ 1 _ _ HG2.out
  have HB2 := Lib.hid ((HB.out.alloc HB.out.size _).trans (hb.mono (by have := HB.out.size; simp; omega)) : Below w.heap.size w w2)
  clear hb hz
  unfold dAgg
  go_wp2
  refine bodyPost_ret (v := .agg #[.int .u64 (U64 (newS seed stream)), .int .u64 (U64 (seedA stream))]) ?_ rfl ⟨rfl, ?_⟩
  · have n1 : w1.heap.size ≠ w.heap.size := by omega
    have n2 : w.heap.size ≠ w1.heap.size := by omega
    simp [results, Try.results12, go_sem, newS, n1, n2, c0, c1, d0, d1]
  · exact (((HB2.out.setCell (Nat.le_of_lt hz1) _).setCell (Nat.le_of_lt hz1) _).setCell (Nat.le_refl _) _).setCell (Nat.le_refl _) _
theorem rbelow_zero (s a : BitVec 64) (w : World) : Calls Try.prog 15 #[dAgg s a, .int .u32 0] w fun e w' => e = .returned (.tuple #[.int .u32 0, dAgg s a]) ∧ Below w.heap.size w w' := by
  unfold dAgg
  go_enter Try.func15, Try.ntmps15
  go_wp2
  refine wp_world (fun W => Below w.heap.size w W ∧ W.heap[w.heap.size]? = some (.cells #[.int .u64 (U64 s), .int .u64 (U64 a)] 28) ∧ W.heap[w.heap.size + 1]? = some (.cells #[.int .u64 0, .int .u64 0] 28))
      ⟨((Below.refl _ _).alloc (Nat.le_refl _) _).alloc (by simp) _, alloc_old (alloc_at rfl), alloc_at (by simp)⟩ ?_
  intro W1 ⟨q1, q2, q3⟩
  refine wp_region_inv 2 (fun W => Below w.heap.size w W ∧ W.heap[w.heap.size]? = some (.cells #[.int .u64 (U64 s), .int .u64 (U64 a)] 28) ∧ W.heap[w.heap.size + 1]? = some (.cells #[.int .u64 0, .int .u64 0] 28)) (by kernel_rfl) (by kernel_rfl) (fun _ => ⟨below_drawn q1 _, q2, q3⟩) ?_
  clear q1 q2 q3
  simp only [List.take_succ_cons, List.take_zero]
  iterate 2
    apply wpInv_cons
    · rfl
    · intro Wx hw
      have h0 : Wx.cell? ⟨w.heap.size, 0, none⟩ = some (.int .u64 (U64 s)) := by rw [cell_of_row _ _ _ _ _ _ hw.2.1]; rfl
      have h1 : Wx.cell? ⟨w.heap.size, 1, none⟩ = some (.int .u64 (U64 a)) := by rw [cell_of_row _ _ _ _ _ _ hw.2.1]; rfl
      go_simp
      exact ⟨hw, rfl⟩
    simp only [Act.put, List.setIfInBounds_toArray, List.set_cons_zero, List.set_cons_succ]
  refine wpInv_nil fun W hw => ?_
  simp only [List.drop_succ_cons, List.drop_zero]
  obtain ⟨hb, hg0, hg1⟩ := hw
  have f0 := frozen_of_row _ _ 0 _ _ hg1
  have f1 := frozen_of_row _ _ 1 _ _ hg1
  have c0 : W.cell? ⟨w.heap.size + 1, 0, none⟩ = some (.int .u64 0) := by rw [cell_of_row _ _ _ _ _ _ hg1]; rfl
  have c1 : W.cell? ⟨w.heap.size + 1, 1, none⟩ = some (.int .u64 0) := by rw [cell_of_row _ _ _ _ _ _ hg1]; rfl
  have HB := Lib.hid hb
  clear hb hg0 hg1
  go_wp2
  refine bodyPost_ret (v := .tuple #[.int .u32 0, .agg #[.int .u64 (U64 s), .int .u64 (U64 a)]]) ?_ rfl ⟨rfl, (HB.out.setCell (by simp) _).setCell (by simp) _⟩
  simp [results, Try.results15, go_sem, c0, c1]
theorem rleast_x (n : BitVec 32) (hn : 0 < n.toNat) : (4294967296 : Int) % U32 n % (4294967296 : Int) = ((least n : Nat) : Int) := by
  unfold U32 least
  have h := n.isLt
  have h1 : (4294967296 - n.toNat) % n.toNat = 4294967296 % n.toNat := by
    rw [Nat.mod_eq_sub_mod (a := 4294967296) (by omega)]
  rw [h1]
  have h2 := Nat.mod_lt 4294967296 hn
  have h3 : (4294967296 : Int) % (n.toNat : Int) = ((4294967296 % n.toNat : Nat) : Int) := rfl
  rw [h3]
  generalize 4294967296 % n.toNat = m at *
  omega
set_option maxRecDepth 100000 in
theorem rbelow_any (s a : BitVec 64) (n : BitVec 32) (k : Nat) (hn : n ≠ 0#32) (hk : firstHit a s n k) (w : World) :
    Calls Try.prog 15 #[dAgg s a, .int .u32 (U32 n)] w fun e w' => e = .returned (.tuple #[.int .u32 (U32 (dword (diter a s k) % n)), dAgg (diter a s (k + 1)) a]) ∧ Below w.heap.size w w' := by
  have hn0 : 0 < n.toNat := by
    rcases Nat.eq_zero_or_pos n.toNat with h' | h'
    · exact absurd (BitVec.eq_of_toNat_eq (by simpa using h')) hn
    · exact h'
  have t0 : (U32 n == 0) = false := beq_eq_false_iff_ne.2 (by unfold U32; omega)
  have t1 : 0 < U32 n := by unfold U32; omega
  have t2 := U32_hi n
  have he3 : (4294967296 - U32 n) % U32 n = 4294967296 % U32 n := by simp
  have HK := Lib.hid hk
  clear hk
  unfold dAgg
  go_enter Try.func15, Try.ntmps15
  go_wp2
  refine wp_world (fun W => Below w.heap.size w W ∧ W.heap[w.heap.size]? = some (.cells (dRow s a) 28) ∧ W.heap[w.heap.size + 1]? = some (.cells (dRow 0#64 0#64) 28))
      ⟨((Below.refl _ _).alloc (Nat.le_refl _) _).alloc (by simp) _, alloc_old (alloc_at rfl), alloc_at (by simp)⟩ ?_
  intro W1 ⟨q1, q2, q3⟩
  have Q1 := Lib.hid q1
  have Q2 := Lib.hid q2
  have Q3 := Lib.hid q3
  clear q1 q2 q3
  rw [he3]
  clear he3
  go_loopg [7] k (fun gk s7 wr => ∃ j : Nat, j + gk = k ∧ Below w.heap.size w wr ∧ wr.heap[w.heap.size]? = some (.cells (dRow (diter a s j) a) 28) ∧ wr.heap[w.heap.size + 1]? = some (.cells (dRow 0#64 0#64) 28))
  case atStart => exact ⟨0, by omega, Q1.out, Q2.out, Q3.out⟩
  case round =>
    clear Q1 Q2 Q3
    obtain ⟨j, hj, q1, q2, q3⟩ := hrel
    have hz := lt_row q3
    have HB := Lib.hid q1
    have HG := Lib.hid q2
    have HR := Lib.hid q3
    have h0 : wr.cell? ⟨w.heap.size, 0, none⟩ = some (.int .u64 (U64 (diter a s j))) := by rw [cell_of_row _ _ _ _ _ _ q2]; rfl
    have h1 : wr.cell? ⟨w.heap.size, 1, none⟩ = some (.int .u64 (U64 a)) := by rw [cell_of_row _ _ _ _ _ _ q2]; rfl
    clear q1 q2 q3
    go_wp2_with fail
    refine (rword_any _ _ _).mono ?_
    rintro e w1 ⟨rfl, hb⟩
    have hz1 := hb.size
    have HB1 := Lib.hid (HB.out.trans (hb.mono HB.out.size))
    have HG1 := Lib.hid (row_kept HG.out hb)
    have HR1 := Lib.hid (row_kept HR.out hb)
    have g0 : w1.cell? ⟨w.heap.size, 0, none⟩ = some (.int .u64 (U64 (diter a s j))) := by rw [cell_of_row _ _ _ _ _ _ HG1.out]; rfl
    have g1 : w1.cell? ⟨w.heap.size, 1, none⟩ = some (.int .u64 (U64 a)) := by rw [cell_of_row _ _ _ _ _ _ HG1.out]; rfl
    have f0 := frozen_of_row _ _ 0 _ _ HG1.out
    have f1 := frozen_of_row _ _ 1 _ _ HG1.out
    have hz2 : w.heap.size < w1.heap.size := by omega
    have hz3 : w.heap.size + 1 < w1.heap.size := by omega
    clear hb HB HG HR h0 h1
    have HG2 := Lib.hid (show ((w1.setCell ⟨w.heap.size, 0, none⟩ (.int .u64 (U64 (dstep a (diter a s j))))).setCell ⟨w.heap.size, 1, none⟩ (.int .u64 (U64 a))).heap[w.heap.size]? = some (.cells (dRow (diter a s (j + 1)) a) 28) by
      rw [heap_setCell_same _ _ _ _ _ _ (heap_setCell_same _ _ _ _ _ _ HG1.out)]; rfl)
    have HR2 := Lib.hid (show ((w1.setCell ⟨w.heap.size, 0, none⟩ (.int .u64 (U64 (dstep a (diter a s j))))).setCell ⟨w.heap.size, 1, none⟩ (.int .u64 (U64 a))).heap[w.heap.size + 1]? = some (.cells (dRow 0#64 0#64) 28) by
      rw [heap_setCell_other _ _ _ _ (by show w.heap.size + 1 ≠ w.heap.size; omega), heap_setCell_other _ _ _ _ (by show w.heap.size + 1 ≠ w.heap.size; omega)]; exact HR1.out)
    have HB2 := Lib.hid (show Below w.heap.size w ((w1.setCell ⟨w.heap.size, 0, none⟩ (.int .u64 (U64 (dstep a (diter a s j))))).setCell ⟨w.heap.size, 1, none⟩ (.int .u64 (U64 a))) from
      (HB1.out.setCell (Nat.le_refl _) _).setCell (Nat.le_refl _) _)
    clear HG1 HR1 HB1
    unfold dAgg
    by_cases hh : hit a s n j
    · have e : j = k := by
        rcases Nat.lt_or_ge j k with h | h
        · exact absurd hh (HK.out.2 j h)
        · omega
      subst e
      have t3 : decide (4294967296 % U32 n % 4294967296 ≤ U32 (dword (diter a s j))) = true := by rw [rleast_x n hn0]; exact decide_eq_true (by unfold hit at hh; unfold U32; omega)
      have he := umod_x (dword (diter a s j)) n
      have hz0 : ¬ U32 n = 0 := by omega
      clear hh
      go_wp2
      refine wp_world (fun W => Below w.heap.size w W ∧ W.heap[w.heap.size]? = some (.cells (dRow (diter a s (j + 1)) a) 28) ∧ W.heap[w.heap.size + 1]? = some (.cells (dRow 0#64 0#64) 28))
        ⟨HB2.out.alloc HB2.out.size _, alloc_old HG2.out, alloc_old HR2.out⟩ ?_
      intro W1 ⟨q1, q2, q3⟩
      refine wp_region_inv 5 (fun W => Below w.heap.size w W ∧ W.heap[w.heap.size]? = some (.cells (dRow (diter a s (j + 1)) a) 28) ∧ W.heap[w.heap.size + 1]? = some (.cells (dRow 0#64 0#64) 28)) (by kernel_rfl) (by kernel_rfl) (fun _ => ⟨below_drawn q1 _, q2, q3⟩) ?_
      clear q1 q2 q3
      simp only [List.take_succ_cons, List.take_zero]
      iterate 5
        apply wpInv_cons
        · rfl
        · intro Wx hw
          have h0 : Wx.cell? ⟨w.heap.size, 0, none⟩ = some (.int .u64 (U64 (diter a s (j + 1)))) := by rw [cell_of_row _ _ _ _ _ _ hw.2.1]; rfl
          have h1 : Wx.cell? ⟨w.heap.size, 1, none⟩ = some (.int .u64 (U64 a)) := by rw [cell_of_row _ _ _ _ _ _ hw.2.1]; rfl
          go_simp
          exact ⟨hw, rfl⟩
        simp only [Act.put, List.setIfInBounds_toArray, List.set_cons_zero, List.set_cons_succ]
      refine wpInv_nil fun W hw => ?_
      simp only [List.drop_succ_cons, List.drop_zero]
      obtain ⟨hb, hg0, hg1⟩ := hw
      have f0 := frozen_of_row _ _ 0 _ _ hg1
      have f1 := frozen_of_row _ _ 1 _ _ hg1
      have c0 : W.cell? ⟨w.heap.size + 1, 0, none⟩ = some (.int .u64 0) := by rw [cell_of_row _ _ _ _ _ _ hg1]; rfl
      have c1 : W.cell? ⟨w.heap.size + 1, 1, none⟩ = some (.int .u64 0) := by rw [cell_of_row _ _ _ _ _ _ hg1]; rfl
      have HB := Lib.hid hb
      clear hb hg0 hg1
      go_wp2
      refine bodyPost_ret (v := .tuple #[.int .u32 (U32 (dword (diter a s j) % n)), .agg #[.int .u64 (U64 (diter a s (j + 1))), .int .u64 (U64 a)]]) ?_ rfl ⟨rfl, (HB.out.setCell (by simp) _).setCell (by simp) _⟩
      simp [results, Try.results15, go_sem, c0, c1]
    · have hjk : j ≠ k := fun e => by subst e; exact hh HK.out.1
      have t3 : decide (4294967296 % U32 n % 4294967296 ≤ U32 (dword (diter a s j))) = false := by rw [rleast_x n hn0]; exact decide_eq_false (by unfold hit at hh; unfold U32; omega)
      clear hh
      go_wp2
      go_roundg (gk - 1)
      case measure => omega
      case rel => exact ⟨j + 1, by omega, HB2.out.alloc HB2.out.size _, alloc_old HG2.out, alloc_old HR2.out⟩
end Go.Proofs.Ytndhlgbpfkidbaa
