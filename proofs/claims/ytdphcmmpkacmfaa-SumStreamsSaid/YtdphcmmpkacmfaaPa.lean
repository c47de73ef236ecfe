/-
  Layer 5, the plain law, no program in sight: steps are linear and can be undone; bytes taken; rows of 64 numbers as linear functions; zeros taken by squaring.
-/
import Derived.Test.YtdphcmmpkacmfaaWc
namespace Go.Proofs.Ytdphcmmpkacmfaa
open Go.K
set_option linter.unusedVariables false

/-! ### Steps -/
theorem mask_bit (n : BitVec 64) : -(n &&& 1#64) = if n.getLsbD 0 then BitVec.allOnes 64 else 0#64 := by
  rw [BitVec.and_one_eq_setWidth_ofBool_getLsbD]
  cases n.getLsbD 0 <;> decide
theorem stepB_eq (n : BitVec 64) : stepB n = n >>> 1 ^^^ (if n.getLsbD 0 then 14514072000185962306#64 else 0#64) := by
  unfold stepB
  rw [mask_bit]
  split <;> simp
theorem stepB_even (n : BitVec 64) (h : n.getLsbD 0 = false) : stepB n = n >>> 1 := by rw [stepB_eq, h]; simp
theorem shr_xor (x y : BitVec 64) (k : Nat) : (x ^^^ y) >>> k = (x >>> k) ^^^ (y >>> k) := by
  apply BitVec.eq_of_getLsbD_eq; intro i hi; simp
theorem xor4 (a b c d : BitVec 64) : (a ^^^ b) ^^^ (c ^^^ d) = (a ^^^ c) ^^^ (b ^^^ d) := by
  ac_rfl
theorem stepB_xor (x y : BitVec 64) : stepB (x ^^^ y) = stepB x ^^^ stepB y := by
  rw [stepB_eq, stepB_eq, stepB_eq, shr_xor, xor4, BitVec.getLsbD_xor]
  congr 1
  cases x.getLsbD 0 <;> cases y.getLsbD 0 <;> simp
theorem iterB_xor (n : Nat) (x y : BitVec 64) : iterB n (x ^^^ y) = iterB n x ^^^ iterB n y := by
  induction n with
  | zero => rfl
  | succ n ih => simp only [iterB, ih, stepB_xor]
theorem iterB_add (m n : Nat) (x : BitVec 64) : iterB (m + n) x = iterB m (iterB n x) := by
  induction m with
  | zero => simp [iterB]
  | succ m ih => rw [Nat.succ_add]; simp only [iterB, ih]
theorem iterB_shift (k : Nat) (y : BitVec 64) (h : ∀ i, i < k → y.getLsbD i = false) : iterB k y = y >>> k := by
  induction k with
  | zero => simp [iterB]
  | succ k ih =>
    rw [iterB, ih (fun i hi => h i (by omega)), stepB_even _ (by simp [h k (by omega)]), ← BitVec.shiftRight_add]
theorem testBit_small (m k : Nat) (h : m < 2 ^ k) (i : Nat) (hi : k ≤ i) : m.testBit i = false :=
  Nat.testBit_lt_two_pow (Nat.lt_of_lt_of_le h (Nat.pow_le_pow_right (by decide) hi))
theorem low_high (x m : BitVec 64) : x = (x &&& ~~~ m) ^^^ (x &&& m) := by
  apply BitVec.eq_of_getLsbD_eq; intro i hi; simp [hi]
  cases x[i] <;> cases m[i] <;> rfl
theorem iterB_split (k : Nat) (x : BitVec 64) (hk : k < 64) :
    x >>> k ^^^ iterB k (x &&& BitVec.ofNat 64 (2 ^ k - 1)) = iterB k x := by
  have hlt : 2 ^ k - 1 < 2 ^ k := by have := Nat.two_pow_pos k; omega
  have hm : ∀ i, i < 64 → (BitVec.ofNat 64 (2 ^ k - 1)).getLsbD i = decide (i < k) := by
    intro i hi
    rw [BitVec.getLsbD_ofNat]
    simp [hi, Nat.testBit_two_pow_sub_one]
  have h1 : iterB k (x &&& ~~~ BitVec.ofNat 64 (2 ^ k - 1)) = x >>> k := by
    rw [iterB_shift]
    · apply BitVec.eq_of_getLsbD_eq; intro i hi
      rw [BitVec.getLsbD_ushiftRight, BitVec.getLsbD_ushiftRight, BitVec.getLsbD_and, BitVec.getLsbD_not]
      by_cases h : k + i < 64
      · rw [hm _ h]; simp [h]
      · have : x.getLsbD (k + i) = false := BitVec.getLsbD_of_ge _ _ (by omega)
        simp [this]
    · intro i hi
      rw [BitVec.getLsbD_and, BitVec.getLsbD_not, hm i (by omega)]
      simp [hi]
  rw [← h1, ← iterB_xor, ← low_high]
theorem nib (x : BitVec 64) : x >>> 4 ^^^ iterB 4 (x &&& 15#64) = iterB 4 x := iterB_split 4 x (by decide)
theorem takeC_eq (r : BitVec 64) (c : BitVec 8) : takeC r c = iterB 8 (r ^^^ c.setWidth 64) := by
  unfold takeC
  simp only [nib]
  exact (iterB_add 4 4 _).symm
theorem takeC_zero (r : BitVec 64) : takeC r 0#8 = iterB 8 r := by rw [takeC_eq]; simp
theorem takeL_append (r : BitVec 64) (l m : List (BitVec 8)) : takeL r (l ++ m) = takeL (takeL r l) m := by unfold takeL; rw [List.foldl_append]
theorem takeL_nil (r : BitVec 64) : takeL r [] = r := rfl
theorem takeL_cons (r : BitVec 64) (c : BitVec 8) (l : List (BitVec 8)) : takeL r (c :: l) = takeL (takeC r c) l := rfl
theorem takeL_xor (l : List (BitVec 8)) : ∀ r d : BitVec 64, takeL (r ^^^ d) l = takeL r l ^^^ iterB (8 * l.length) d := by
  induction l with
  | nil => intro r d; simp [takeL, iterB]
  | cons c l ih =>
    intro r d
    rw [takeL_cons, takeL_cons, takeC_eq, show r ^^^ d ^^^ c.setWidth 64 = (r ^^^ c.setWidth 64) ^^^ d by
      rw [BitVec.xor_assoc, BitVec.xor_comm d, BitVec.xor_assoc], iterB_xor, ← takeC_eq, ih, ← iterB_add, List.length_cons, Nat.mul_succ]

/-! ### A step can be undone -/
theorem mul2 (y : BitVec 64) : y * 2#64 = y <<< 1 := by
  apply BitVec.eq_of_toNat_eq
  rw [BitVec.toNat_mul, BitVec.toNat_shiftLeft, Nat.shiftLeft_eq]
  rfl
theorem backB_eq (r : BitVec 64) : backB r = if r.getLsbD 63 then (r ^^^ 14514072000185962306#64) <<< 1 ||| 1#64 else r <<< 1 := by
  unfold backB
  rw [mul2, mul2]
  have h : (U64 r / 9223372036854775808 = 1) = (r.getLsbD 63 = true) := by
    have hm : r.getLsbD 63 = r.msb := rfl
    rw [hm, BitVec.msb_eq_decide]
    unfold U64
    have := r.isLt
    apply propext
    simp
    omega
  simp only [h]
theorem poly63 : (14514072000185962306#64).getLsbD 63 = true := by decide
theorem one_get (i : Nat) : (1#64).getLsbD i = decide (i = 0) := by
  rw [BitVec.getLsbD_one]; simp
theorem shl1_shr1 (y : BitVec 64) (h : y.getLsbD 63 = false) (o : BitVec 64) (ho : ∀ i, 0 < i → o.getLsbD i = false) : (y <<< 1 ||| o) >>> 1 = y := by
  apply BitVec.eq_of_getLsbD_eq; intro i hi
  rw [BitVec.getLsbD_ushiftRight, BitVec.getLsbD_or, BitVec.getLsbD_shiftLeft, ho _ (by omega)]
  by_cases e : i = 63
  · subst e; rw [h]; simp
  · have : 1 + i < 64 := by omega
    simp [this, show ¬ 1 + i < 1 by omega]
theorem shr1_shl1 (r : BitVec 64) (o : BitVec 64) (h : ∀ i, i < 64 → o.getLsbD i = (decide (i = 0) && r.getLsbD 0)) : (r >>> 1) <<< 1 ||| o = r := by
  apply BitVec.eq_of_getLsbD_eq; intro i hi
  rw [BitVec.getLsbD_or, BitVec.getLsbD_shiftLeft, BitVec.getLsbD_ushiftRight, h i hi]
  by_cases e : i = 0
  · subst e; simp
  · simp [hi, e, show ¬ i < 1 by omega, show 1 + (i - 1) = i by omega]
theorem step_back (r : BitVec 64) : stepB (backB r) = r := by
  rw [backB_eq]
  cases h : r.getLsbD 63
  · simp only [Bool.false_eq_true, if_false]
    rw [stepB_even _ (by simp)]
    have := shl1_shr1 r h 0#64 (by simp)
    simpa using this
  · simp only [if_true]
    rw [stepB_eq, shl1_shr1 _ (by rw [BitVec.getLsbD_xor, h, poly63]; rfl) _ (fun i hi => by rw [one_get]; simp; omega)]
    have : ((r ^^^ 14514072000185962306#64) <<< 1 ||| 1#64).getLsbD 0 = true := by rw [BitVec.getLsbD_or, one_get]; simp
    rw [this, if_pos rfl, BitVec.xor_assoc, BitVec.xor_self, BitVec.xor_zero]
theorem stepB_top (r : BitVec 64) : (stepB r).getLsbD 63 = r.getLsbD 0 := by
  rw [stepB_eq, BitVec.getLsbD_xor, BitVec.getLsbD_ushiftRight, BitVec.getLsbD_of_ge r (1 + 63) (by omega)]
  cases r.getLsbD 0
  · simp
  · rw [if_pos rfl, poly63]; rfl
theorem back_step (r : BitVec 64) : backB (stepB r) = r := by
  rw [backB_eq, stepB_top, stepB_eq]
  cases h : r.getLsbD 0
  · have := shr1_shl1 r 0#64 (by intro i hi; rw [h]; simp)
    simpa using this
  · simp only [if_true]
    rw [BitVec.xor_assoc, BitVec.xor_self, BitVec.xor_zero]
    exact shr1_shl1 r 1#64 (by intro i hi; rw [one_get, h]; simp)
theorem iter_back (n : Nat) (r : BitVec 64) : iterB n (backN n r) = r := by
  induction n generalizing r with
  | zero => rfl
  | succ n ih =>
    have comm : ∀ n x, iterB n (stepB x) = stepB (iterB n x) := fun n x => by
      have := iterB_add n 1 x
      have h2 := iterB_add 1 n x
      rw [Nat.add_comm 1 n] at h2
      exact this.symm.trans h2
    rw [iterB, ← comm, backN, step_back, ih]
theorem iterB_inj (n : Nat) {x y : BitVec 64} (h : iterB n x = iterB n y) : x = y := by
  induction n with
  | zero => exact h
  | succ n ih =>
    refine ih ?_
    rw [← back_step (iterB n x), ← back_step (iterB n y)]
    exact congrArg backB h

/-! ### Eight bytes -/
def bytesN : Nat → BitVec 64 → List (BitVec 8)
  | 0, _ => []
  | n + 1, x => x.setWidth 8 :: bytesN n (x >>> 8)
theorem bytesN_length (n : Nat) (x : BitVec 64) : (bytesN n x).length = n := by
  induction n generalizing x with
  | zero => rfl
  | succ n ih => simp [bytesN, ih]
theorem low8 (x : BitVec 64) : (x.setWidth 8).setWidth 64 = x &&& 255#64 := by
  apply BitVec.eq_of_getLsbD_eq; intro i hi
  rw [BitVec.getLsbD_setWidth, BitVec.getLsbD_setWidth, BitVec.getLsbD_and, BitVec.getLsbD_ofNat]
  have : Nat.testBit 255 i = decide (i < 8) := Nat.testBit_two_pow_sub_one 8 i
  simp [hi, this, Bool.and_comm]
theorem takeC_low (s x : BitVec 64) : takeC s (x.setWidth 8) ^^^ x >>> 8 = iterB 8 (s ^^^ x) := by
  rw [takeC_eq, low8, iterB_xor, iterB_xor, ← iterB_split 8 x (by decide), BitVec.xor_assoc]
  congr 1
  exact BitVec.xor_comm _ _
theorem takeL_bytes (n : Nat) : ∀ s x : BitVec 64, x >>> (8 * n) = 0#64 → takeL s (bytesN n x) = iterB (8 * n) (s ^^^ x) := by
  induction n with
  | zero => intro s x h; simp at h; subst h; simp [bytesN, takeL, iterB]
  | succ n ih =>
    intro s x h
    rw [bytesN, takeL_cons, ih _ _ (by rw [← BitVec.shiftRight_add]; rwa [show 8 + 8 * n = 8 * (n + 1) by omega]), takeC_low, ← iterB_add, Nat.mul_succ]
theorem takeL_eight (s x : BitVec 64) : takeL s (bytesN 8 x) = iterB 64 (s ^^^ x) := takeL_bytes 8 s x (shr64 x)

/-! ### Rows of numbers -/
theorem bitB_eq (i : Nat) (h : i < 64) : bitB i = 1#64 <<< i := by
  unfold bitB
  apply BitVec.eq_of_toNat_eq
  rw [BitVec.toNat_ofInt, BitVec.toNat_shiftLeft, Nat.shiftLeft_eq]
  have : (2 : Int) ^ i = ((2 ^ i : Nat) : Int) := by simp
  rw [this, ← Int.natCast_emod, Int.toNat_natCast]
  simp
theorem bitB_get (i : Nat) (h : i < 64) (j : Nat) (hj : j < 64) : (bitB i).getLsbD j = decide (j = i) := by
  rw [bitB_eq i h, BitVec.getLsbD_shiftLeft]
  by_cases e : j = i
  · subst e; simp [hj]
  · simp [hj, e]
    omega
/-- The lowest n bits. -/
def lowN (n : Nat) (r : BitVec 64) : BitVec 64 := (r.setWidth n).setWidth 64
theorem lowN_get (n : Nat) (r : BitVec 64) (i : Nat) (hi : i < 64) : (lowN n r).getLsbD i = (decide (i < n) && r.getLsbD i) := by
  unfold lowN
  rw [BitVec.getLsbD_setWidth, BitVec.getLsbD_setWidth]; simp [hi]
theorem lowN_succ (n : Nat) (r : BitVec 64) (h : n < 64) : lowN (n + 1) r = lowN n r ^^^ (if r.getLsbD n then bitB n else 0#64) := by
  apply BitVec.eq_of_getLsbD_eq; intro i hi
  rw [BitVec.getLsbD_xor, lowN_get _ _ _ hi, lowN_get _ _ _ hi]
  by_cases e : i = n
  · subst e
    cases hr : r.getLsbD i <;> simp [bitB_get i h i h]
  · have : (i < n + 1) = (i < n) := by apply propext; omega
    cases hr : r.getLsbD n <;> simp [bitB_get n h i hi, e, this]
theorem lowN_all (r : BitVec 64) : lowN 64 r = r := by
  apply BitVec.eq_of_getLsbD_eq; intro i hi
  rw [lowN_get _ _ _ hi]; simp [hi]
theorem ofFrom_lin (f : BitVec 64 → BitVec 64) (hf : ∀ x y, f (x ^^^ y) = f x ^^^ f y) (r : BitVec 64) :
    ∀ n, n ≤ 64 → ofFrom (fun i => f (bitB i)) r n = f (lowN n r) := by
  have f0 : f 0#64 = 0#64 := by have := hf 0#64 0#64; simpa using this
  intro n
  induction n with
  | zero => intro _; rw [ofFrom, show lowN 0 r = 0#64 by (apply BitVec.eq_of_getLsbD_eq; intro i hi; rw [lowN_get _ _ _ hi]; simp), f0]
  | succ n ih =>
    intro hn
    rw [ofFrom, ih (by omega), lowN_succ n r (by omega), hf, mask_bit]
    congr 1
    rw [BitVec.getLsbD_ushiftRight, Nat.add_zero]
    cases r.getLsbD n
    · simp [f0]
    · rw [if_pos rfl, if_pos rfl, BitVec.and_allOnes]
theorem ofM_lin (f : BitVec 64 → BitVec 64) (hf : ∀ x y, f (x ^^^ y) = f x ^^^ f y) (r : BitVec 64) : ofM (fun i => f (bitB i)) r = f r := by
  rw [ofM, ofFrom_lin f hf r 64 (Nat.le_refl _), lowN_all]
theorem joinRest_lin (n : Nat) : ∀ (k : Nat) (a : BitVec 64), joinRest a (fun i => iterB k (bitB i)) n = iterB (k * n) a := by
  induction n using Nat.strongRecOn with
  | _ n ih =>
    intro k a
    rw [joinRest]
    split
    · subst_vars; simp [iterB]
    · rename_i h0
      have hs : sqM (fun i => iterB k (bitB i)) = fun i => iterB (k + k) (bitB i) := by
        funext i
        rw [sqM, ofM_lin _ (iterB_xor k), iterB_add]
      rw [hs, ih (n / 2) (by omega), ofM_lin _ (iterB_xor k)]
      split
      · rw [← iterB_add]; congr 1
        have : n = 2 * (n / 2) + 1 := by omega
        conv => rhs; rw [this]
        rw [Nat.mul_add, Nat.mul_one, ← Nat.mul_assoc, Nat.mul_two]
      · congr 1
        have : n = 2 * (n / 2) := by omega
        conv => rhs; rw [this]
        rw [← Nat.mul_assoc, Nat.mul_two]
theorem join_plain (a : BitVec 64) (n : Nat) : joinRest a M0 n = iterB (8 * n) a := by
  have : M0 = fun i => iterB 8 (bitB i) := by funext i; rw [M0, takeC_zero]
  rw [this, joinRest_lin]
end Go.Proofs.Ytdphcmmpkacmfaa
