/-
  Layer 6: dice, walked: a word, a leap, a state, on both sides.
-/
import Derived.Test.YtndhlgbpfkidbaaRows
import Derived.Test.YtndhlgbpfkidbaaGen
import Derived.Test.YtndhlgbpfkidbaaPd
import Derived.BigQuiet
import Derived.Deep.QuietTactic
import Derived.Deep.LoopGhost
namespace Go.Proofs.Ytndhlgbpfkidbaa
open Go.RowKit Go.K Go.Dice
set_option linter.unusedVariables false
set_option linter.unusedSimpArgs false

theorem neg_and31 : ∀ r : Fin 32, (-BitVec.ofNat 64 r.val &&& 31#64).toNat = (32 - r.val) % 32 := by decide +kernel
theorem rot_s (r : Nat) (hr : r < 32) : bits .and .u64 (IntKind.u64.wrap (-(r : Int))) 31 = (((32 - r) % 32 : Nat) : Int) := by
  rw [and_U64, wrap_U64, U64_ofInt, ofInt_neg64, ofInt_nat64]
  have := neg_and31 ⟨r, hr⟩
  unfold U64
  exact congrArg _ this
theorem rot_or (x : BitVec 32) (s : Nat) (hs : s < 32) : bits .or .u32 (U32 x * 2 ^ s % 4294967296) (U32 x / 2 ^ (32 - s)) = U32 (x <<< s ||| x >>> (32 - s)) := by
  rw [or_U32]
  congr 1
  have h1 : (U32 x * 2 ^ s % 4294967296 : Int) = U32 (x <<< s) := by
    rw [← shl_U32 x s]
    unfold U32
    rw [BitVec.toNat_ofInt]
    have e : (2 : Int) ^ s = ((2 ^ s : Nat) : Int) := by simp
    rw [e]
    omega
  have h2 : (U32 x / 2 ^ (32 - s) : Int) = U32 (x >>> (32 - s)) := by
    rw [← shr_U32 x (32 - s)]; simp
  rw [h1, h2, U32_ofInt, U32_ofInt]
theorem rot_eq (x : BitVec 32) (r : Nat) (hr : r < 32) : x <<< ((32 - r) % 32) ||| x >>> (32 - (32 - r) % 32) = (x >>> r) ||| (x <<< (32 - r)) := by
  by_cases h : r = 0
  · subst h
    have e1 : x >>> (32 : Nat) = 0#32 := by
      apply BitVec.eq_of_toNat_eq; rw [BitVec.toNat_ushiftRight, Nat.shiftRight_eq_div_pow]; have := x.isLt; simp; omega
    have e2 : x <<< (32 : Nat) = 0#32 := by
      apply BitVec.eq_of_toNat_eq; rw [BitVec.toNat_shiftLeft, Nat.shiftLeft_eq]; simp
    show x <<< (0 : Nat) ||| x >>> (32 : Nat) = x >>> (0 : Nat) ||| x <<< (32 : Nat)
    rw [e1, e2]; simp
  · rw [Nat.mod_eq_of_lt (by omega), show 32 - (32 - r) = r by omega, BitVec.or_comm]
theorem rot_any (x : BitVec 32) (n : Int) (r : Nat) (hr : r < 32) (hn : n = -(r : Int)) (w : World) :
    Calls Try.prog 39 #[.int .u32 (U32 x), .int .i64 n] w fun e w' => e = .returned (.int .u32 (U32 ((x >>> r) ||| (x <<< (32 - r))))) ∧ w = w' := by
  subst hn
  have hE := rot_s r hr
  obtain ⟨s, hs⟩ : ∃ s, s = (32 - r) % 32 := ⟨_, rfl⟩
  rw [← hs] at hE
  have hs31 : s < 32 := by omega
  have HS := Lib.hid hs
  clear hs
  go_enter Try.func39, Try.ntmps39
  go_wp2
  go_ret
  exact ⟨ret_int (by rw [rot_or x s (by omega), HS.out]; congr 1; exact rot_eq x r hr), rfl⟩

theorem word_x (s : BitVec 64) : bits .xor .u64 (U64 s / (262144 : Int)) (U64 s) / (134217728 : Int) % (4294967296 : Int) = U32 ((((s >>> 18) ^^^ s) >>> 27).setWidth 32) := by
  rw [xor_U64, show (262144 : Int) = ((2 ^ 18 : Nat) : Int) from rfl, shr_U64, U64_ofInt, U64_ofInt, show (134217728 : Int) = ((2 ^ 27 : Nat) : Int) from rfl, shr_U64]
  unfold U64 U32
  rw [BitVec.toNat_setWidth]; rfl
theorem step_x (s a : BitVec 64) : IntKind.u64.wrap (IntKind.u64.wrap (U64 s * 6364136223846793005) + U64 a) = U64 (dstep a s) := by
  rw [wrap_U64, wrap_U64, ofInt_add64, U64_ofInt, U64_ofInt, ofInt_mul64, U64_ofInt]; rfl
theorem shr59_lt (s : BitVec 64) : (s >>> 59).toNat < 32 := by
  rw [BitVec.toNat_ushiftRight, Nat.shiftRight_eq_div_pow]; have := s.isLt; omega
theorem word_n (s : BitVec 64) : wrap64 (-wrap64 (U64 s / 576460752303423488)) = -(((s >>> 59).toNat : Nat) : Int) := by
  have h := shr59_lt s
  rw [show (576460752303423488 : Int) = ((2 ^ 59 : Nat) : Int) from rfl, shr_U64]
  unfold U64
  generalize (s >>> 59).toNat = r at h
  unfold wrap64
  omega

/-! ### The program's dice -/
def dRow (s a : BitVec 64) : Array Value := #[.int .u64 (U64 s), .int .u64 (U64 a)]
theorem at_any (s a : BitVec 64) (w : World) : Calls Try.prog 11 #[.int .u64 (U64 s), .int .u64 (U64 a)] w fun e w' => e = .returned (.pointer (some ⟨w.heap.size, 0, none⟩)) ∧ w' = w.alloc (.cells (dRow s (a ||| 1#64)) 85) := by
  have h : bits .or .u64 (U64 a) 1 = U64 (a ||| 1#64) := by rw [or_U64, U64_ofInt]; rfl
  generalize a ||| 1#64 = b at h
  go_enter Try.func11, Try.ntmps11
  go_wp2
  go_ret
  exact ⟨rfl, rfl⟩
theorem pnil (w : World) : (binOp .eql 24 (.pointer none) (.pointer none)).run Try.prog w = .ok (.bool true) w := by kernel_rfl
theorem word_nil (w : World) : Calls Try.prog 14 #[.pointer none] w fun e w' => e = .returned (.int .u32 0) ∧ w = w' := by
  have hb := pnil
  go_enter Try.func14, Try.ntmps14
  go_wp2
  go_ret
  exact ⟨rfl, rfl⟩
theorem word_any (g : Nat) (s a : BitVec 64) (w : World) (hg : w.heap[g]? = some (.cells (dRow s a) 85)) :
    Calls Try.prog 14 #[.pointer (some ⟨g, 0, none⟩)] w fun e w' => e = .returned (.int .u32 (U32 (dword s))) ∧ w.grownBy w' (some g) ∧ w'.heap[g]? = some (.cells (dRow (dstep a s) a) 85) := by
  have h0 : w.cell? ⟨g, 0, none⟩ = some (.int .u64 (U64 s)) := by rw [cell_of_row _ _ _ _ _ _ hg]; rfl
  have h1 : w.cell? ⟨g, 1, none⟩ = some (.int .u64 (U64 a)) := by rw [cell_of_row _ _ _ _ _ _ hg]; rfl
  have hf := frozen_of_row _ _ 0 _ _ hg
  have HG := Lib.hid hg
  clear hg
  go_enter Try.func14, Try.ntmps14
  go_wp2_with fail
  rw [word_x, step_x]
  refine (rot_any _ _ (s >>> 59).toNat (shr59_lt s) (word_n s) _).mono ?_
  rintro e w' ⟨rfl, rfl⟩
  go_wp2
  go_ret
  exact ⟨rfl, grown_set (grown_below (Below.refl _ _) _) _ _, by rw [heap_setCell_same _ _ _ _ _ _ HG.out]; rfl⟩
theorem state_nil (w : World) : Calls Try.prog 19 #[.pointer none] w fun e w' => e = .returned (.tuple #[.int .u64 0, .int .u64 0]) ∧ w = w' := by
  have hb := pnil
  go_enter Try.func19, Try.ntmps19
  go_wp2
  go_ret2
  exact ⟨rfl, rfl⟩
theorem state_any (g : Nat) (s a : BitVec 64) (w : World) (hg : w.heap[g]? = some (.cells (dRow s a) 85)) :
    Calls Try.prog 19 #[.pointer (some ⟨g, 0, none⟩)] w fun e w' => e = .returned (.tuple #[.int .u64 (U64 s), .int .u64 (U64 a)]) ∧ ∃ n, w' = w.drewN n := by
  have h0 : w.cell? ⟨g, 0, none⟩ = some (.int .u64 (U64 s)) := by rw [cell_of_row _ _ _ _ _ _ hg]; rfl
  have h1 : w.cell? ⟨g, 1, none⟩ = some (.int .u64 (U64 a)) := by rw [cell_of_row _ _ _ _ _ _ hg]; rfl
  clear hg
  go_enter Try.func19, Try.ntmps19
  go_wp2
  go_quiet (fail)
  go_wp2
  go_ret2
  exact ⟨rfl, _, rfl⟩
theorem skip_nil (x : BitVec 64) (w : World) : Calls Try.prog 18 #[.pointer none, .int .u64 (U64 x)] w fun e w' => e = .returned (.tuple #[]) ∧ w = w' := by
  have hb := pnil
  go_enter Try.func18, Try.ntmps18
  go_wp2
  refine bodyPost_ret (results_none rfl _ _ _) rfl ?_
  exact ⟨rfl, rfl⟩
theorem mod_bit (n j : Nat) : n % 2 ^ (j + 1) = n % 2 ^ j + 2 ^ j * (n / 2 ^ j % 2) := Nat.mod_pow_succ ..
theorem diter_bit (a s : BitVec 64) (n j : Nat) (h : n / 2 ^ j % 2 = 1) : diter a s (n % 2 ^ (j + 1)) = diter a s (n % 2 ^ j) * A j + C a j := by
  rw [mod_bit, h, Nat.mul_one, iter_add, iter_pow]
theorem diter_nobit (a s : BitVec 64) (n j : Nat) (h : n / 2 ^ j % 2 = 0) : diter a s (n % 2 ^ (j + 1)) = diter a s (n % 2 ^ j) := by
  rw [mod_bit, h, Nat.mul_zero, Nat.add_zero]
theorem low_bit (x : BitVec 64) (j : Nat) : bits .and .u64 (U64 (x >>> j)) 1 = ((x.toNat / 2 ^ j % 2 : Nat) : Int) := by
  rw [and_U64, U64_ofInt]
  unfold U64
  rw [BitVec.toNat_and, BitVec.toNat_ushiftRight, Nat.shiftRight_eq_div_pow, show (BitVec.ofInt 64 1).toNat = 2 ^ 1 - 1 from rfl, Nat.and_two_pow_sub_one_eq_mod]
theorem mul_x (x y : BitVec 64) : IntKind.u64.wrap (U64 x * U64 y) = U64 (x * y) := by
  rw [wrap_U64, ofInt_mul64, U64_ofInt, U64_ofInt]
theorem muladd_x (x y z : BitVec 64) : IntKind.u64.wrap (IntKind.u64.wrap (U64 x * U64 y) + U64 z) = U64 (x * y + z) := by
  rw [mul_x, wrap_U64, ofInt_add64, U64_ofInt, U64_ofInt]
theorem half_x (x : BitVec 64) (j : Nat) : U64 (x >>> j) / 2 = U64 (x >>> (j + 1)) := by
  rw [BitVec.shiftRight_add]; exact shr_U64_1 _
theorem skip_any (g : Nat) (s a x : BitVec 64) (w : World) (hg : w.heap[g]? = some (.cells (dRow s a) 85)) :
    Calls Try.prog 18 #[.pointer (some ⟨g, 0, none⟩), .int .u64 (U64 x)] w fun e w' => e = .returned (.tuple #[]) ∧ w.grownBy w' (some g) ∧ w'.heap[g]? = some (.cells (dRow (diter a s x.toNat) a) 85) := by
  have h1 : w.cell? ⟨g, 1, none⟩ = some (.int .u64 (U64 a)) := by rw [cell_of_row _ _ _ _ _ _ hg]; rfl
  have HG := Lib.hid hg
  clear hg
  go_enter Try.func18, Try.ntmps18
  go_wp2
  go_quiet (fail)
  go_wp2
  refine wp_world (fun W => w.grownBy W (some g) ∧ W.heap[g]? = some (.cells (dRow s a) 85)) ⟨⟨rfl, rfl, rfl, Nat.le_refl _, fun _ _ _ => rfl⟩, HG.out⟩ ?_
  clear HG
  intro W ⟨hgr, hg⟩
  have HGR := Lib.hid hgr
  have HG := Lib.hid hg
  clear hgr hg h1
  go_loopw [1, 4, 5] (fun n f q wr => ∃ j : Nat, n = .int .u64 (U64 (x >>> j)) ∧ f = .int .u64 (U64 (A j)) ∧ q = .int .u64 (U64 (C a j)) ∧ w.grownBy wr (some g) ∧ wr.heap[g]? = some (.cells (dRow (diter a s (x.toNat % 2 ^ j)) a) 85)) (fun n _ _ _ => (intOf n).toNat)
  case atStart => exact ⟨0, by simp, rfl, rfl, HGR.out, by rw [Nat.pow_zero, Nat.mod_one]; exact HG.out⟩
  case round =>
    clear HGR HG
    obtain ⟨j, rfl, rfl, rfl, hgr, hg⟩ := hrel
    have HGR := Lib.hid hgr
    have HG := Lib.hid hg
    have hx : (x >>> j).toNat = x.toNat / 2 ^ j := by rw [BitVec.toNat_ushiftRight, Nat.shiftRight_eq_div_pow]
    by_cases hz : x.toNat / 2 ^ j = 0
    · have t0 : decide (0 < U64 (x >>> j)) = false := decide_eq_false (by unfold U64; rw [hx, hz]; omega)
      have HX := Lib.hid (show x.toNat % 2 ^ j = x.toNat from Nat.mod_eq_of_lt (by
        rcases Nat.lt_or_ge x.toNat (2 ^ j) with h | h
        · exact h
        · have := Nat.div_pos h (Nat.pow_pos (by omega)); omega))
      clear hz hx hg hgr
      go_wp2
      go_end0
      exact ⟨rfl, HGR.out, by rw [← HX.out]; exact HG.out⟩
    · have t0 : decide (0 < U64 (x >>> j)) = true := decide_eq_true (by unfold U64; rw [hx]; omega)
      have h0 : wr.cell? ⟨g, 0, none⟩ = some (.int .u64 (U64 (diter a s (x.toNat % 2 ^ j)))) := by rw [cell_of_row _ _ _ _ _ _ hg]; rfl
      have hf := frozen_of_row _ _ 0 _ _ hg
      have HM := Lib.hid (show (U64 (x >>> (j + 1))).toNat < (U64 (x >>> j)).toNat by
        unfold U64
        rw [Int.toNat_natCast, Int.toNat_natCast, hx, BitVec.toNat_ushiftRight, Nat.shiftRight_eq_div_pow, Nat.pow_succ, ← Nat.div_div_eq_div_mul]; omega)
      have hl := low_bit x j
      have hh := half_x x j
      have HF := Lib.hid (show A j * A j = A (j + 1) from rfl)
      have HC := Lib.hid (show C a j * A j + C a j = C a (j + 1) from rfl)
      rcases Nat.mod_two_eq_zero_or_one (x.toNat / 2 ^ j) with hb | hb
      · have HD := Lib.hid (diter_nobit a s x.toNat j hb)
        rw [hb] at hl
        have e2 := mul_x (A j) (A j)
        have e3 := muladd_x (C a j) (A j) (C a j)
        clear hz hx hg hgr hb
        go_wp2
        go_roundw
        case rel => exact ⟨j + 1, rfl, by rw [← HF.out], by rw [← HC.out], HGR.out, by rw [HD.out]; exact HG.out⟩
        case measure => exact HM.out
      · have HD := Lib.hid (diter_bit a s x.toNat j hb)
        rw [hb] at hl
        generalize diter a s (x.toNat % 2 ^ j) = D at *
        have e1 := muladd_x D (A j) (C a j)
        have e2 := mul_x (A j) (A j)
        have e3 := muladd_x (C a j) (A j) (C a j)
        clear hz hx hg hgr hb
        go_wp2
        go_roundw
        case rel => exact ⟨j + 1, rfl, by rw [← HF.out], by rw [← HC.out], grown_set HGR.out _ _, by rw [heap_setCell_same _ _ _ _ _ _ HG.out, HD.out]; rfl⟩
        case measure => exact HM.out
theorem below_nil (n : BitVec 32) (w : World) : Calls Try.prog 16 #[.pointer none, .int .u32 (U32 n)] w fun e w' => e = .returned (.int .u32 0) ∧ w = w' := by
  have hb := pnil
  go_enter Try.func16, Try.ntmps16
  go_wp2
  go_ret
  exact ⟨rfl, rfl⟩
theorem below_zero (g : Nat) (w : World) : Calls Try.prog 16 #[.pointer (some ⟨g, 0, none⟩), .int .u32 0] w fun e w' => e = .returned (.int .u32 0) ∧ w = w' := by
  go_enter Try.func16, Try.ntmps16
  go_wp2
  go_ret
  exact ⟨rfl, rfl⟩
theorem least_x (n : BitVec 32) (hn : 0 < n.toNat) : -U32 n % (4294967296 : Int) % U32 n = ((least n : Nat) : Int) := by
  unfold U32 least
  have h := n.isLt
  have e : -(n.toNat : Int) % 4294967296 = ((4294967296 - n.toNat : Nat) : Int) := by omega
  rw [e]; rfl
theorem umod_x (d n : BitVec 32) : (U32 d).tmod (U32 n) = U32 (d % n) := by
  rw [Int.tmod_eq_emod_of_nonneg (U32_lo d)]; unfold U32; rw [BitVec.toNat_umod]; rfl
theorem below_any (g : Nat) (s a : BitVec 64) (n : BitVec 32) (k : Nat) (hn : n ≠ 0#32) (hk : firstHit a s n k) (w : World) (hg : w.heap[g]? = some (.cells (dRow s a) 85)) :
    Calls Try.prog 16 #[.pointer (some ⟨g, 0, none⟩), .int .u32 (U32 n)] w fun e w' => e = .returned (.int .u32 (U32 (dword (diter a s k) % n))) ∧ w.grownBy w' (some g) ∧ w'.heap[g]? = some (.cells (dRow (diter a s (k + 1)) a) 85) := by
  have hn0 : 0 < n.toNat := by
    rcases Nat.eq_zero_or_pos n.toNat with h' | h'
    · exact absurd (BitVec.eq_of_toNat_eq (by simpa using h')) hn
    · exact h'
  have t0 : (U32 n == 0) = false := beq_eq_false_iff_ne.2 (by unfold U32; omega)
  have t1 : 0 < U32 n := by unfold U32; omega
  have HG := Lib.hid hg
  have HK := Lib.hid hk
  clear hg hk
  go_enter Try.func16, Try.ntmps16
  go_wp2
  go_loopg [5] k (fun gk s5 wr => ∃ j : Nat, j + gk = k ∧ w.grownBy wr (some g) ∧ wr.heap[g]? = some (.cells (dRow (diter a s j) a) 85))
  case atStart => exact ⟨0, by omega, grown_below (Below.refl _ _) _, HG.out⟩
  case round =>
    clear HG
    obtain ⟨j, hj, hgr, hg⟩ := hrel
    have HGR := Lib.hid hgr
    have HG := Lib.hid hg
    clear hgr hg
    go_wp2_with fail
    refine (word_any g _ a _ HG.out).mono ?_
    rintro e w1 ⟨rfl, hgr1, hg1⟩
    have HGR1 := Lib.hid (grown_trans HGR.out hgr1)
    have HG1 := Lib.hid hg1
    clear hgr1 hg1 HGR HG
    by_cases hh : hit a s n j
    · have e : j = k := by
        rcases Nat.lt_or_ge j k with h | h
        · exact absurd hh (HK.out.2 j h)
        · omega
      subst e
      have t2 : decide (-U32 n % 4294967296 % U32 n ≤ U32 (dword (diter a s j))) = true := by rw [least_x n hn0]; exact decide_eq_true (by unfold hit at hh; unfold U32; omega)
      have HE := Lib.hid (umod_x (dword (diter a s j)) n)
      clear hh
      go_wp2
      go_ret
      exact ⟨ret_int HE.out, HGR1.out, HG1.out⟩
    · have hjk : j ≠ k := fun e => by subst e; exact hh HK.out.1
      have t2 : decide (-U32 n % 4294967296 % U32 n ≤ U32 (dword (diter a s j))) = false := by rw [least_x n hn0]; exact decide_eq_false (by unfold hit at hh; unfold U32; omega)
      clear hh
      go_wp2
      go_roundg (gk - 1)
      case measure => omega
      case rel => exact ⟨j + 1, by omega, HGR1.out, HG1.out⟩
def seedA (stream : BitVec 64) : BitVec 64 := 2#64 * stream + 1#64
def newS (seed stream : BitVec 64) : BitVec 64 := dstep (seedA stream) (dstep (seedA stream) 0#64 + seed)
theorem seedA_or (x : BitVec 64) : seedA x ||| 1#64 = seedA x := by
  apply BitVec.eq_of_getLsbD_eq
  intro i hi
  rw [BitVec.getLsbD_or]
  by_cases h : i = 0
  · subst h
    have : (seedA x).getLsbD 0 = true := by
      unfold seedA
      rw [BitVec.getLsbD, Nat.testBit_zero, BitVec.toNat_add, BitVec.toNat_mul]
      simp only [BitVec.toNat_ofNat, decide_eq_true_eq]; omega
    rw [this]; rfl
  · have : (1#64).getLsbD i = false := by rw [BitVec.getLsbD_one]; simp [h]
    rw [this, Bool.or_false]
theorem seedA_x (x : BitVec 64) : IntKind.u64.wrap (IntKind.u64.wrap (2 * U64 x) + 1) = U64 (seedA x) := by
  rw [wrap_U64, wrap_U64, ofInt_add64, U64_ofInt, ofInt_mul64, U64_ofInt]; rfl
theorem add_x (x y : BitVec 64) : IntKind.u64.wrap (U64 x + U64 y) = U64 (x + y) := by
  rw [wrap_U64, ofInt_add64, U64_ofInt, U64_ofInt]
theorem new_any (seed stream : BitVec 64) (w : World) : Calls Try.prog 10 #[.int .u64 (U64 seed), .int .u64 (U64 stream)] w fun e w' => e = .returned (.pointer (some ⟨w.heap.size, 0, none⟩)) ∧ Below w.heap.size w w' ∧
    w'.heap[w.heap.size]? = some (.cells (dRow (newS seed stream) (seedA stream)) 85) := by
  go_enter Try.func10, Try.ntmps10
  go_wp2_with fail
  rw [seedA_x, show (0 : Int) = U64 0#64 from rfl]
  refine (at_any _ _ _).mono ?_
  rintro e w1 ⟨rfl, rfl⟩
  rw [seedA_or]
  go_wp2_with fail
  refine (word_any w.heap.size _ _ _ (heap_alloc_new _ _)).mono ?_
  rintro e w2 ⟨rfl, hgr, hg⟩
  have hB := (((Below.refl _ _).alloc (Nat.le_refl _) _).grown hgr (by simp) (fun k hk => by cases hk; exact Nat.le_refl _) : Below w.heap.size w w2)
  have h0 : w2.cell? ⟨w.heap.size, 0, none⟩ = some (.int .u64 (U64 (dstep (seedA stream) 0#64))) := by rw [cell_of_row _ _ _ _ _ _ hg]; rfl
  have hf := frozen_of_row _ _ 0 _ _ hg
  have HG := Lib.hid hg
  have HB := Lib.hid hB
  have e1 := add_x (dstep (seedA stream) 0#64) seed
  have e2 := add_x seed (dstep (seedA stream) 0#64)
  clear hg hB hgr
  go_wp2_with fail
  refine (word_any w.heap.size (dstep (seedA stream) 0#64 + seed) (seedA stream) _ (by rw [heap_setCell_same _ _ _ _ _ _ HG.out]; rfl)).mono ?_
  rintro e w3 ⟨rfl, hgr, hg⟩
  have HB3 := Lib.hid ((HB.out.setCell (Nat.le_refl _) _).grown hgr (by have := HB.out.size; simpa [World.setCell] using this) (fun k hk => by cases hk; exact Nat.le_refl _) : Below w.heap.size w w3)
  have HG3 := Lib.hid hg
  clear hg hgr HG HB e1 e2 h0 hf
  go_wp2
  go_ret
  exact ⟨rfl, HB3.out, HG3.out⟩
end Go.Proofs.Ytndhlgbpfkidbaa
