/-
  Layer 6, plain: the dice's states go round through all numbers of 64 bits (the dstep is odd), so that some dword is great enough.
-/
namespace Go.Dice
def F : BitVec 64 := 6364136223846793005#64
def dstep (a s : BitVec 64) : BitVec 64 := s * F + a
def diter (a s : BitVec 64) : Nat → BitVec 64
  | 0 => s
  | k + 1 => dstep a (diter a s k)
theorem iter_add (a s : BitVec 64) (k : Nat) : ∀ l, diter a s (k + l) = diter a (diter a s k) l
  | 0 => rfl
  | l + 1 => by show dstep a (diter a s (k + l)) = _; rw [iter_add a s k l]; rfl
theorem iter_step (a s : BitVec 64) (k : Nat) : diter a s (k + 1) = diter a (dstep a s) k := by
  rw [Nat.add_comm, iter_add]; rfl
def A : Nat → BitVec 64
  | 0 => F
  | m + 1 => A m * A m
def C (a : BitVec 64) : Nat → BitVec 64
  | 0 => a
  | m + 1 => C a m * A m + C a m
def p : Nat → BitVec 64
  | 0 => 1#64
  | m + 1 => 2#64 * p m
theorem iter_pow (a : BitVec 64) : ∀ m s, diter a s (2 ^ m) = s * A m + C a m
  | 0, s => rfl
  | m + 1, s => by
    rw [Nat.pow_succ, Nat.mul_two, iter_add, iter_pow a m, iter_pow a m]
    show _ = s * (A m * A m) + (C a m * A m + C a m)
    generalize A m = x
    generalize C a m = y
    grind
theorem A_form : ∀ m, ∃ v, A m = 1#64 + 4#64 * p m * v
  | 0 => ⟨1591034055961698251#64, by decide⟩
  | m + 1 => by
    obtain ⟨v, hv⟩ := A_form m
    refine ⟨v + 2#64 * p m * v * v, ?_⟩
    show A m * A m = 1#64 + 4#64 * (2#64 * p m) * (v + 2#64 * p m * v * v)
    rw [hv]
    generalize p m = q
    grind
theorem C_form (a b : BitVec 64) (ha : a = 2#64 * b + 1#64) : ∀ m, ∃ u, C a m = p m * (2#64 * u + 1#64)
  | 0 => ⟨b, by show a = 1#64 * _; rw [ha]; grind⟩
  | m + 1 => by
    obtain ⟨u, hu⟩ := C_form a b ha m
    obtain ⟨v, hv⟩ := A_form m
    refine ⟨u + 2#64 * u * p m * v + p m * v, ?_⟩
    show C a m * A m + C a m = 2#64 * p m * _
    rw [hu, hv]
    generalize p m = q
    grind
theorem parity (q : BitVec 64) : ∃ r, q = 2#64 * r ∨ q = 2#64 * r + 1#64 := by
  refine ⟨q >>> 1, ?_⟩
  have h := q.isLt
  have e : (q >>> 1).toNat = q.toNat / 2 := by rw [BitVec.toNat_ushiftRight, Nat.shiftRight_eq_div_pow]
  rcases Nat.mod_two_eq_zero_or_one q.toNat with h0 | h0
  · left; apply BitVec.eq_of_toNat_eq; rw [BitVec.toNat_mul, e]; simp only [BitVec.toNat_ofNat]; omega
  · right; apply BitVec.eq_of_toNat_eq; rw [BitVec.toNat_add, BitVec.toNat_mul, e]; simp only [BitVec.toNat_ofNat]; omega
theorem reach_m (a b : BitVec 64) (ha : a = 2#64 * b + 1#64) (s t : BitVec 64) : ∀ m, ∃ k q, t = diter a s k + q * p m
  | 0 => ⟨0, t - s, by show t = s + (t - s) * 1#64; grind⟩
  | m + 1 => by
    obtain ⟨k, q, h⟩ := reach_m a b ha s t m
    obtain ⟨r, hr | hr⟩ := parity q
    · refine ⟨k, r, ?_⟩
      show t = _ + r * (2#64 * p m)
      rw [hr] at h
      generalize diter a s k = x at *
      generalize p m = y at *
      grind
    · obtain ⟨u, hu⟩ := C_form a b ha m
      obtain ⟨v, hv⟩ := A_form m
      refine ⟨k + 2 ^ m, r - u - 2#64 * diter a s k * v, ?_⟩
      rw [iter_add, iter_pow]
      show t = _ + _ * (2#64 * p m)
      rw [hu, hv]
      rw [hr] at h
      generalize diter a s k = x at *
      generalize p m = y at *
      grind
theorem p64 : p 64 = 0#64 := by decide +kernel
/-- Every state comes up. -/
theorem reach (a s t : BitVec 64) (h : a.getLsbD 0 = true) : ∃ k, diter a s k = t := by
  obtain ⟨b, hb⟩ : ∃ b, a = 2#64 * b + 1#64 := by
    obtain ⟨r, hr | hr⟩ := parity a
    · exfalso
      rw [hr] at h
      have : (2#64 * r).toNat % 2 = 0 := by rw [BitVec.toNat_mul]; simp only [BitVec.toNat_ofNat]; omega
      rw [BitVec.getLsbD, Nat.testBit_zero] at h
      simp at h
    · exact ⟨r, hr⟩
  obtain ⟨k, q, e⟩ := reach_m a b hb s t 64
  exact ⟨k, by rw [e, p64]; grind⟩
/-- The dword that a state gives. -/
def dword (s : BitVec 64) : BitVec 32 :=
  let x : BitVec 32 := (((s >>> 18) ^^^ s) >>> 27).setWidth 32
  let r := (s >>> 59).toNat
  (x >>> r) ||| (x <<< (32 - r))
def least (n : BitVec 32) : Nat := (4294967296 - n.toNat) % n.toNat
theorem word_all : dword 0x7fffe0000000000#64 = 0xFFFFFFFF#32 := by decide
def hit (a s : BitVec 64) (n : BitVec 32) (k : Nat) : Prop := least n ≤ (dword (diter a s k)).toNat
instance (a s : BitVec 64) (n : BitVec 32) (k : Nat) : Decidable (hit a s n k) := by unfold hit; infer_instance
theorem some_hit (a s : BitVec 64) (n : BitVec 32) (h : a.getLsbD 0 = true) (hn : n ≠ 0#32) : ∃ k, hit a s n k := by
  obtain ⟨k, hk⟩ := reach a s 0x7fffe0000000000#64 h
  refine ⟨k, ?_⟩
  unfold hit
  rw [hk, word_all]
  have h0 : 0 < n.toNat := by
    rcases Nat.eq_zero_or_pos n.toNat with h' | h'
    · exact absurd (BitVec.eq_of_toNat_eq (by simpa using h')) hn
    · exact h'
  have := Nat.mod_lt (4294967296 - n.toNat) h0
  have := n.isLt
  unfold least
  show _ ≤ 4294967295
  omega
def firstHit (a s : BitVec 64) (n : BitVec 32) (k : Nat) : Prop := hit a s n k ∧ ∀ j, j < k → ¬ hit a s n j
theorem first_ex (a s : BitVec 64) (n : BitVec 32) : ∀ d k, (∀ j, j < k → ¬ hit a s n j) → hit a s n (k + d) → ∃ k, firstHit a s n k
  | 0, k, h, hk => ⟨k, hk, h⟩
  | d + 1, k, h, hk => by
    by_cases hh : hit a s n k
    · exact ⟨k, hh, h⟩
    · refine first_ex a s n d (k + 1) (fun j hj => ?_) (by rw [Nat.add_right_comm]; exact hk)
      rcases Nat.lt_or_eq_of_le (Nat.le_of_lt_succ hj) with h1 | h1
      · exact h j h1
      · rw [h1]; exact hh
theorem first_some (a s : BitVec 64) (n : BitVec 32) (h : a.getLsbD 0 = true) (hn : n ≠ 0#32) : ∃ k, firstHit a s n k := by
  obtain ⟨k, hk⟩ := some_hit a s n h hn
  exact first_ex a s n k 0 (fun j hj => absurd hj (Nat.not_lt_zero j)) (by rw [Nat.zero_add]; exact hk)
/-! ### So many steps at once -/
def Fp : Nat → BitVec 64
  | 0 => 1#64
  | n + 1 => Fp n * F
def Xp (a : BitVec 64) : Nat → BitVec 64
  | 0 => 0#64
  | n + 1 => Xp a n * F + a
theorem iter_eq (a s : BitVec 64) : ∀ n, diter a s n = s * Fp n + Xp a n
  | 0 => by show s = s * 1#64 + 0#64; grind
  | n + 1 => by
    show diter a s n * F + a = s * (Fp n * F) + (Xp a n * F + a)
    rw [iter_eq a s n]
    generalize Fp n = x
    generalize Xp a n = y
    generalize F = z
    grind
theorem Fp_add (m : Nat) : ∀ n, Fp (m + n) = Fp m * Fp n
  | 0 => by show Fp m = Fp m * 1#64; grind
  | n + 1 => by
    show Fp (m + n) * F = Fp m * (Fp n * F)
    rw [Fp_add m n]
    generalize Fp m = x
    generalize Fp n = y
    generalize F = z
    grind
theorem Xp_add (a : BitVec 64) (m : Nat) : ∀ n, Xp a (m + n) = Xp a m * Fp n + Xp a n
  | 0 => by show Xp a m = Xp a m * 1#64 + 0#64; grind
  | n + 1 => by
    show Xp a (m + n) * F + a = Xp a m * (Fp n * F) + (Xp a n * F + a)
    rw [Xp_add a m n]
    generalize Xp a m = x
    generalize Xp a n = y
    generalize Fp n = u
    generalize F = z
    grind
theorem Fp_even (n : Nat) : Fp (2 * n) = Fp n * Fp n := by rw [Nat.two_mul, Fp_add]
theorem Xp_even (a : BitVec 64) (n : Nat) : Xp a (2 * n) = Xp a n * Fp n + Xp a n := by rw [Nat.two_mul, Xp_add]
theorem Fp_pow : ∀ m, Fp (2 ^ m) = A m
  | 0 => by show 1#64 * F = F; grind
  | m + 1 => by rw [Nat.pow_succ, Nat.mul_comm, Fp_even, Fp_pow m]; rfl
theorem Xp_pow (a : BitVec 64) : ∀ m, Xp a (2 ^ m) = C a m
  | 0 => by show 0#64 * F + a = a; grind
  | m + 1 => by rw [Nat.pow_succ, Nat.mul_comm, Xp_even, Xp_pow a m, Fp_pow m]; rfl
end Go.Dice
