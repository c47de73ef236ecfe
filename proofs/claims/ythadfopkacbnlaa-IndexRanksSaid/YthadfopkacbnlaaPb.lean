/-
  Layer 18: sums and products of reals as rounded whole numbers; what is moved towards another real stays between the two.
-/
import Derived.Test.YthadfopkacbnlaaPa
import Derived.Test.YthadfopkacbnlaaTb
namespace Go.Proofs.Ythadfopkacbnlaa.fl
open Ieee
set_option linter.unusedVariables false
set_option linter.unusedSimpArgs false
open n03 (rg sgn wd opW)
theorem rg_wd (s : Bool) {r : Nat} (h : r < 2147483648) : rg (wd s r) = r := by
  unfold rg wd; cases s
  · exact Nat.mod_eq_of_lt h
  · show (2147483648 + r) % 2147483648 = r
    omega
theorem sgn_wd (s : Bool) {r : Nat} (h : r < 2147483648) : sgn (wd s r) = s := by
  unfold sgn wd; cases s
  · show (r / 2147483648 % 2 == 1) = false
    rw [Nat.div_eq_of_lt h]; rfl
  · show ((2147483648 + r) / 2147483648 % 2 == 1) = true
    rw [show (2147483648 + r) / 2147483648 = 1 by omega]; rfl
theorem read_wd (s : Bool) {r : Nat} (h : r < 2139095040) : single.read (wd s r) = .number s (R.pm r) (R.pe r) := by
  have h1 := rg_wd s (r := r) (by omega)
  have := n03.read_num (x := wd s r) (by rw [h1]; exact h)
  rw [h1, sgn_wd s (by omega)] at this
  exact this
theorem clean_wd (s : Bool) {r : Nat} (h : r ≤ 2139095040) : n03.cleanW (wd s r) = wd s r := by
  have : n03.nanW (wd s r) = false := by
    rw [n03.nanW_rg, rg_wd s (by omega)]; simp; omega
  unfold n03.cleanW
  rw [this]; rfl
/-- A real's number of units, with its sign. -/
def sv (s : Bool) (r : Nat) : Int := if s then -(V r : Int) else (V r : Int)
theorem signed_val (s : Bool) (m : Nat) (i base : Int) (h : base ≤ i) (hb : -300 ≤ base) : signed s m (i - base).toNat * ((2 ^ (base + 300).toNat : Nat) : Int) = if s then -(R.sc (-300) m i : Int) else (R.sc (-300) m i : Int) := by
  have e : m <<< (i - base).toNat * 2 ^ (base + 300).toNat = R.sc (-300) m i := by
    unfold R.sc
    rw [Nat.shiftLeft_eq, Nat.mul_assoc, ← Nat.pow_add]; congr 2; omega
  unfold signed
  cases s
  · show ((m <<< (i - base).toNat : Nat) : Int) * _ = _
    rw [← Int.natCast_mul, e]; rfl
  · show -((m <<< (i - base).toNat : Nat) : Int) * _ = _
    rw [Int.neg_mul, ← Int.natCast_mul, e]; rfl
theorem sum_wd (s t : Bool) {r q : Nat} (hr : r < 2139095040) (hq : q < 2139095040) (T : Int) (hT : T = sv s r + sv t q) :
    opW (((Datum.number s (R.pm r) (R.pe r)).sum (.number t (R.pm q) (R.pe q))).map single.write) = wd (if T = 0 then s && t else decide (T < 0)) (N T.natAbs) := by
  have h1 := R.pe_ge r
  have h2 := R.pe_ge q
  obtain ⟨base, hb⟩ : ∃ base, base = min (R.pe r) (R.pe q) := ⟨_, rfl⟩
  obtain ⟨tot, ht⟩ : ∃ tot, tot = signed s (R.pm r) (R.pe r - base).toNat + signed t (R.pm q) (R.pe q - base).toNat := ⟨_, rfl⟩
  have hp : (0 : Int) < ((2 ^ (base + 300).toNat : Nat) : Int) := by have := Nat.two_pow_pos (base + 300).toNat; omega
  have hv : T = tot * ((2 ^ (base + 300).toNat : Nat) : Int) := by
    rw [hT, ht, Int.add_mul, signed_val s _ _ _ (by omega) (by omega), signed_val t _ _ _ (by omega) (by omega)]; rfl
  have e : ((Datum.number s (R.pm r) (R.pe r)).sum (.number t (R.pm q) (R.pe q))).map single.write = some (single.nearest (if tot = 0 then s && t else decide (tot < 0)) tot.natAbs base) := by
    rw [ht, hb]; rfl
  have e0 : T = 0 ↔ tot = 0 := by
    rw [hv]; constructor
    · intro h; rcases Int.mul_eq_zero.1 h with h | h
      · exact h
      · omega
    · intro h; rw [h, Int.zero_mul]
  have e1 : T < 0 ↔ tot < 0 := by
    rw [hv]; constructor
    · intro h
      by_cases c : tot < 0
      · exact c
      · have := Int.mul_nonneg (show 0 ≤ tot by omega) (Int.le_of_lt hp); omega
    · intro h; exact Int.mul_neg_of_neg_of_pos h hp
  have e2 : R.sc (-300) tot.natAbs base = T.natAbs := by
    rw [hv, Int.natAbs_mul]
    unfold R.sc
    rw [show base - -300 = base + 300 by omega]; rfl
  rw [e, near_N _ _ _ (by omega), e2]
  show n03.cleanW _ = _
  rw [clean_wd _ (N_inf _)]
  congr 1
  by_cases c : T = 0
  · rw [if_pos c, if_pos (e0.1 c)]
  · rw [if_neg c, if_neg (fun h => c (e0.2 h)), Bool.eq_iff_iff, decide_eq_true_iff, decide_eq_true_iff]; exact e1.symm
theorem add_wd (s t : Bool) {r q : Nat} (hr : r < 2139095040) (hq : q < 2139095040) (T : Int) (hT : T = sv s r + sv t q) :
    opW (single.add (wd s r) (wd t q)) = wd (if T = 0 then s && t else decide (T < 0)) (N T.natAbs) := by
  unfold Format.add
  rw [read_wd s hr, read_wd t hq]
  exact sum_wd s t hr hq T hT
theorem sub_wd (s t : Bool) {r q : Nat} (hr : r < 2139095040) (hq : q < 2139095040) (T : Int) (hT : T = sv s r + sv (!t) q) :
    opW (single.sub (wd s r) (wd t q)) = wd (if T = 0 then s && !t else decide (T < 0)) (N T.natAbs) := by
  unfold Format.sub
  rw [read_wd s hr, read_wd t hq]
  exact sum_wd s (!t) hr hq T hT
theorem mul_wd (s t : Bool) {r q : Nat} (hr : r < 2139095040) (hq : q < 2139095040) : ∃ X, X * (2 ^ 150 * 2 ^ 150) = V r * V q ∧ opW (single.mul (wd s r) (wd t q)) = wd (s ^^ t) (N X) := by
  have h1 := R.pe_ge r
  have h2 := R.pe_ge q
  refine ⟨R.sc (-300) (R.pm r * R.pm q) (R.pe r + R.pe q), ?_, ?_⟩
  · unfold V R.sc
    generalize R.pm r = a at *
    generalize R.pm q = b at *
    generalize R.pe r = i at *
    generalize R.pe q = j at *
    obtain ⟨u, hu⟩ : ∃ u : Nat, u = 150 := ⟨_, rfl⟩
    rw [← hu, ← Nat.pow_add 2 u u, show (i - -300).toNat = (i + 300).toNat by congr 1, show (j - -300).toNat = (j + 300).toNat by congr 1, Nat.mul_assoc (a * b), ← Nat.pow_add, show a * 2 ^ (i + 300).toNat * (b * 2 ^ (j + 300).toNat) = a * b * (2 ^ (i + 300).toNat * 2 ^ (j + 300).toNat) by ac_rfl, ← Nat.pow_add]
    congr 2
    omega
  · unfold Format.mul
    rw [read_wd s hr, read_wd t hq]
    show n03.cleanW (single.nearest (s ^^ t) (R.pm r * R.pm q) (R.pe r + R.pe q)) = _
    rw [near_N _ _ _ (by omega), clean_wd _ (N_inf _)]
/-- The rung of a power of two. -/
theorem pow_rung (k : Nat) (h : k < 278) : ∃ r, r ≤ 2139095040 ∧ V r = 2 ^ (k + 151) ∧ (k < 277 → r < 2139095040) := by
  by_cases c : k < 23
  · have := Nat.pow_le_pow_right (n := 2) (by decide) (show k ≤ 22 by omega)
    refine ⟨2 ^ k, by omega, ?_, fun _ => by omega⟩
    have h2 := Nat.pow_lt_pow_right (a := 2) (by decide) c
    unfold V R.sc R.pm R.pe
    rw [if_pos (by omega), if_pos (by omega), show ((-149 : Int) - -300).toNat = 151 by decide, ← Nat.pow_add]
  · refine ⟨(k - 22) * 8388608, by omega, ?_, fun _ => by omega⟩
    unfold V R.sc R.pm R.pe
    rw [if_neg (by omega), if_neg (by omega), Nat.mul_mod_left, Nat.mul_div_cancel _ (by decide), Nat.zero_add, show (8388608 : Nat) = 2 ^ 23 from rfl, ← Nat.pow_add]
    congr 1
    omega
theorem V_mul (r : Nat) : ∃ z, V r = z * 2 ^ 151 := by
  obtain ⟨s, c, _, _, _, hv⟩ := parts r
  exact ⟨c * 2 ^ s, by rw [hv, Nat.pow_add, Nat.mul_assoc]⟩
theorem V_lt {r u : Nat} (h : r < 2139095040) (hu : u = 428) : V r < 2 ^ u := by
  obtain ⟨s, c, hr, h1, h2, hv⟩ := parts r
  rw [hv]
  have a : c * 2 ^ (s + 151) < 2 ^ 24 * 2 ^ (s + 151) := Nat.mul_lt_mul_of_pos_right h2 (Nat.two_pow_pos _)
  rw [← Nat.pow_add] at a
  exact Nat.lt_of_lt_of_le a (Nat.pow_le_pow_right (by decide) (by omega))
theorem D_mul {x y : Nat} : ∃ z, V y - V x = z * 2 ^ 151 := by
  obtain ⟨a, ha⟩ := V_mul x
  obtain ⟨b, hb⟩ := V_mul y
  exact ⟨b - a, by rw [ha, hb, Nat.sub_mul]⟩
theorem wd_false (r : Nat) : wd false r = r := rfl
theorem sgn_pos (n : Nat) : (if (n : Int) = 0 then false else decide ((n : Int) < 0)) = false := by
  split
  · rfl
  · simp
theorem sgn_neg {n : Nat} (h : 0 < n) (b : Bool) : (if -(n : Int) = 0 then b else decide (-(n : Int) < 0)) = true := by
  rw [if_neg (by omega)]; simp; omega
/-- The difference of two reals that are not negative. -/
theorem sub_up {x y : Nat} (hx : x < 2139095040) (hy : y < 2139095040) (h : x ≤ y) : opW (single.sub y x) = N (V y - V x) := by
  have hm := V_mono h (by omega)
  have h1 := sub_wd false false hy hx ((V y - V x : Nat) : Int) (by
    show _ = (V y : Int) + -(V x : Int)
    omega)
  rw [wd_false, wd_false, Bool.not_false, Bool.false_and, sgn_pos, Int.natAbs_natCast, wd_false] at h1
  exact h1
theorem sub_down {x y : Nat} (hx : x < 2139095040) (hy : y < 2139095040) (h : y < x) : opW (single.sub y x) = wd true (N (V x - V y)) ∧ 0 < V x - V y := by
  have hm := V_mono (Nat.le_of_lt h) (by omega)
  have hne : V y ≠ V x := fun e => by have := V_inj (by omega) (by omega) e; omega
  have h1 := sub_wd false false hy hx (-((V x - V y : Nat) : Int)) (by
    show _ = (V y : Int) + -(V x : Int)
    omega)
  rw [wd_false, wd_false, sgn_neg (by omega), Int.natAbs_neg, Int.natAbs_natCast] at h1
  exact ⟨h1, by omega⟩
theorem add_up {x m : Nat} (hx : x < 2139095040) (hm : m < 2139095040) : opW (single.add x m) = N (V x + V m) := by
  have h1 := add_wd false false hx hm ((V x + V m : Nat) : Int) (by
    show _ = (V x : Int) + (V m : Int)
    omega)
  rw [wd_false, wd_false, Bool.false_and, sgn_pos, Int.natAbs_natCast, wd_false] at h1
  exact h1
theorem add_down {x m : Nat} (hx : x < 2139095040) (hm : m < 2139095040) (h : V m ≤ V x) : opW (single.add x (wd true m)) = N (V x - V m) := by
  have h1 := add_wd false true hx hm ((V x - V m : Nat) : Int) (by
    show _ = (V x : Int) + -(V m : Int)
    omega)
  rw [wd_false, Bool.false_and, sgn_pos, Int.natAbs_natCast, wd_false] at h1
  exact h1
/-- A half or less of a rounded difference is at most the difference. -/
theorem part_le {D p u v : Nat} (hz : ∃ z, D = z * 2 ^ 151) (hu : u = 428) (hD : D < 2 ^ u) (hp0 : p < 2139095040) (hv : v = 150) (hp : V p * 2 ≤ 2 ^ v * 2 ^ v) (h2 : N D < 2139095040) (s : Bool) : ∃ m, opW (single.mul (wd s (N D)) p) = wd s m ∧ V m ≤ D ∧ m < 2139095040 := by
  obtain ⟨X, hX, hm⟩ := mul_wd s false h2 hp0
  rw [wd_false, Bool.xor_false] at hm
  refine ⟨N X, hm, ?_⟩
  rw [← hv] at hX
  have h0 : 0 < 2 ^ v * 2 ^ v := Nat.mul_pos (Nat.two_pow_pos _) (Nat.two_pow_pos _)
  by_cases c : D = 0
  · rw [c, N_zero, V_zero, Nat.zero_mul] at hX
    have : X = 0 := by
      rcases Nat.mul_eq_zero.1 hX with h | h
      · exact h
      · omega
    rw [this, N_zero, V_zero]
    exact ⟨Nat.zero_le _, by decide⟩
  · have hz1 : 151 ≤ D.log2 := by
      obtain ⟨z, hz⟩ := hz
      refine (Nat.le_log2 c).2 ?_
      rw [hz]
      have : 0 < z := by
        rcases Nat.eq_zero_or_pos z with h | h
        · rw [h, Nat.zero_mul] at hz; exact absurd hz c
        · exact h
      exact Nat.le_mul_of_pos_left _ this
    have hz2 : D.log2 < u := (Nat.log2_lt c).2 hD
    obtain ⟨k, hk⟩ : ∃ k, D.log2 = k + 151 := ⟨D.log2 - 151, by omega⟩
    have l1 : 2 ^ (k + 151) ≤ D := by rw [← hk]; exact Nat.log2_self_le c
    have l2 : D < 2 ^ (k + 1 + 151) := by rw [show k + 1 + 151 = D.log2 + 1 by omega]; exact Nat.lt_log2_self
    obtain ⟨r, r1, r2, r3⟩ := pow_rung k (by omega)
    obtain ⟨q, q1, q2, _⟩ := pow_rung (k + 1) (by omega)
    have n1 : N D ≤ q := N_le q1 (by rw [q2]; exact Nat.le_of_lt l2)
    have n2 := V_mono n1 q1
    rw [q2] at n2
    have x1 : X * (2 ^ v * 2 ^ v) * 2 ≤ 2 ^ (k + 151) * (2 ^ v * 2 ^ v) * 2 := by
      rw [hX]
      calc V (N D) * V p * 2 = V (N D) * (V p * 2) := Nat.mul_assoc _ _ _
        _ ≤ 2 ^ (k + 1 + 151) * (2 ^ v * 2 ^ v) := Nat.mul_le_mul n2 hp
        _ = 2 ^ (k + 151) * (2 ^ v * 2 ^ v) * 2 := by rw [show k + 1 + 151 = k + 151 + 1 by omega, Nat.pow_succ]; exact Nat.mul_right_comm _ _ _
    have x2 : X ≤ 2 ^ (k + 151) := Nat.le_of_mul_le_mul_right (Nat.le_of_mul_le_mul_right x1 (by decide)) h0
    have n3 : N X ≤ r := N_le r1 (by rw [r2]; exact x2)
    have n4 := V_mono n3 r1
    rw [r2] at n4
    exact ⟨Nat.le_trans n4 l1, Nat.lt_of_le_of_lt n3 (r3 (by omega))⟩
theorem V_half {v : Nat} (hv : v = 150) : V 1056964608 * 2 ≤ 2 ^ v * 2 ^ v := by
  unfold V R.sc R.pm R.pe
  rw [if_neg (by decide), if_neg (by decide), show 1056964608 % 8388608 + 8388608 = 2 ^ 23 from rfl, ← Nat.pow_add, ← Nat.pow_add, ← Nat.pow_succ]
  exact Nat.pow_le_pow_right (by decide) (by rw [hv]; decide)
theorem V_eighth {v : Nat} (hv : v = 150) : V 1040187392 * 2 ≤ 2 ^ v * 2 ^ v := by
  unfold V R.sc R.pm R.pe
  rw [if_neg (by decide), if_neg (by decide), show 1040187392 % 8388608 + 8388608 = 2 ^ 23 from rfl, ← Nat.pow_add, ← Nat.pow_add, ← Nat.pow_succ]
  exact Nat.pow_le_pow_right (by decide) (by rw [hv]; decide)
/-- What is moved towards y by a half or less stays between. -/
theorem smV_up {x y p : Nat} (hx : x < 2139095040) (hy : y < 2139095040) (hp0 : p < 2139095040) (hp : ∀ v, v = 150 → V p * 2 ≤ 2 ^ v * 2 ^ v) (h : x ≤ y) : x ≤ smV x y p ∧ smV x y p ≤ y := by
  have hm := V_mono h (by omega)
  have hn : N (V y - V x) ≤ y := N_le (by omega) (Nat.sub_le _ _)
  obtain ⟨u, hu⟩ : ∃ u : Nat, u = 428 := ⟨_, rfl⟩
  obtain ⟨m, m1, m2, m3⟩ := part_le (D_mul (x := x) (y := y)) hu (Nat.lt_of_le_of_lt (Nat.sub_le _ _) (V_lt hy hu)) hp0 rfl (hp _ rfl) (by omega) false
  rw [wd_false, wd_false] at m1
  unfold smV
  rw [sub_up hx hy h, m1, add_up hx m3]
  exact ⟨N_ge (by omega) (Nat.le_add_right _ _), N_le (by omega) (by omega)⟩
theorem smV_down {x y p : Nat} (hx : x < 2139095040) (hy : y < 2139095040) (hp0 : p < 2139095040) (hp : ∀ v, v = 150 → V p * 2 ≤ 2 ^ v * 2 ^ v) (h : y < x) : y ≤ smV x y p ∧ smV x y p ≤ x := by
  have hm := V_mono (Nat.le_of_lt h) (by omega)
  have hn : N (V x - V y) ≤ x := N_le (by omega) (Nat.sub_le _ _)
  obtain ⟨u, hu⟩ : ∃ u : Nat, u = 428 := ⟨_, rfl⟩
  obtain ⟨m, m1, m2, m3⟩ := part_le (D_mul (x := y) (y := x)) hu (Nat.lt_of_le_of_lt (Nat.sub_le _ _) (V_lt hx hu)) hp0 rfl (hp _ rfl) (by omega) true
  unfold smV
  rw [(sub_down hx hy h).1, m1, add_down hx m3 (by omega)]
  exact ⟨N_ge (by omega) (by omega), N_le (by omega) (Nat.sub_le _ _)⟩
/-- Between any bounds. -/
theorem smV_in {x y p a b : Nat} (hb : b < 2139095040) (hp0 : p < 2139095040) (hp : ∀ v, v = 150 → V p * 2 ≤ 2 ^ v * 2 ^ v) (hx : a ≤ x ∧ x ≤ b) (hy : a ≤ y ∧ y ≤ b) : a ≤ smV x y p ∧ smV x y p ≤ b := by
  by_cases h : x ≤ y
  · have := smV_up (by omega) (by omega) hp0 hp h; omega
  · have := smV_down (x := x) (y := y) (by omega) (by omega) hp0 hp (by omega); omega
theorem signed_zero (s : Bool) (m : Nat) : signed s m 0 = if s then -(m : Int) else (m : Int) := by
  unfold signed; rw [Nat.shiftLeft_zero]
theorem order_wd {r : Nat} (hr : r < 2139095040) (h0 : 0 < V r) : FloatKind.f32.format.order r (wd true r) = some .gt ∧ FloatKind.f32.format.order (wd true r) r = some .lt := by
  have hp : 0 < R.pm r := by
    rcases Nat.eq_zero_or_pos (R.pm r) with h | h
    · unfold V R.sc at h0; rw [h, Nat.zero_mul] at h0; omega
    · exact h
  have e1 := read_wd false hr
  have e2 := read_wd true hr
  rw [wd_false] at e1
  have hm : (R.pe r - min (R.pe r) (R.pe r)).toNat = 0 := by omega
  constructor
  · show (single.read r).order (single.read (wd true r)) = _
    rw [e1, e2]
    show some (compare (signed false (R.pm r) (R.pe r - min (R.pe r) (R.pe r)).toNat) (signed true (R.pm r) (R.pe r - min (R.pe r) (R.pe r)).toNat)) = _
    rw [hm, signed_zero, signed_zero]
    generalize R.pm r = m at *
    show some (compareOfLessAndEq (m : Int) (-(m : Int))) = some Ordering.gt
    unfold compareOfLessAndEq
    rw [if_neg (by omega), if_neg (by omega)]
  · show (single.read (wd true r)).order (single.read r) = _
    rw [e1, e2]
    show some (compare (signed true (R.pm r) (R.pe r - min (R.pe r) (R.pe r)).toNat) (signed false (R.pm r) (R.pe r - min (R.pe r) (R.pe r)).toNat)) = _
    rw [hm, signed_zero, signed_zero]
    generalize R.pm r = m at *
    show some (compareOfLessAndEq (-(m : Int)) (m : Int)) = some Ordering.lt
    unfold compareOfLessAndEq
    rw [if_pos (by omega)]
theorem maxW_gt {x y : Nat} (h : FloatKind.f32.format.order x y = some .gt) : maxW x y = x := by unfold maxW; rw [h]
theorem maxW_lt {x y : Nat} (h : FloatKind.f32.format.order x y = some .lt) : maxW x y = y := by unfold maxW; rw [h]
theorem maxW_zero : maxW 0 0 = 0 := by decide +kernel
theorem order_zero : FloatKind.f32.format.order 0 0 = some .eq := by decide +kernel
/-- How far apart two prices are. -/
theorem far {p a : Nat} (hp : p < 2139095040) (ha : a < 2139095040) : ¬ FloatKind.f32.format.order (opW (single.sub p a)) (opW (single.sub a p)) = none ∧ farW p a = if a ≤ p then N (V p - V a) else N (V a - V p) := by
  have hN : ∀ x y, x < 2139095040 → y < 2139095040 → y < x → N (V x - V y) < 2139095040 ∧ 0 < V (N (V x - V y)) := fun x y hx hy h => by
    have h1 : N (V x - V y) ≤ x := N_le (by omega) (Nat.sub_le _ _)
    refine ⟨by omega, ?_⟩
    obtain ⟨z, hz⟩ := D_mul (x := y) (y := x)
    have h2 := (sub_down hx hy h).2
    have hz0 : 0 < z := by
      rcases Nat.eq_zero_or_pos z with h | h
      · rw [h, Nat.zero_mul] at hz; omega
      · exact h
    obtain ⟨r, r1, r2, _⟩ := pow_rung 0 (by decide)
    have h3 : r ≤ N (V x - V y) := N_ge r1 (by rw [r2, hz, Nat.zero_add]; exact Nat.le_mul_of_pos_left _ hz0)
    have h4 := V_mono h3 (N_inf _)
    rw [r2] at h4
    exact Nat.lt_of_lt_of_le (Nat.two_pow_pos _) h4
  by_cases h : a ≤ p
  · rw [if_pos h]
    by_cases e : a = p
    · subst e
      have h1 := sub_up ha ha (Nat.le_refl a)
      rw [Nat.sub_self, N_zero] at h1
      unfold farW
      rw [h1, Nat.sub_self, N_zero]
      exact ⟨by rw [order_zero]; simp, maxW_zero⟩
    · obtain ⟨n1, n2⟩ := hN p a hp ha (by omega)
      have h1 := sub_up ha hp h
      have h2 := (sub_down hp ha (by omega)).1
      have h3 := (order_wd n1 n2).1
      unfold farW
      rw [h1, h2]
      exact ⟨by rw [h3]; simp, maxW_gt h3⟩
  · rw [if_neg h]
    obtain ⟨n1, n2⟩ := hN a p ha hp (by omega)
    have h1 := sub_up hp ha (by omega)
    have h2 := (sub_down ha hp (by omega)).1
    have h3 := (order_wd n1 n2).2
    unfold farW
    rw [h1, h2]
    exact ⟨by rw [h3]; simp, maxW_lt h3⟩
theorem fuW_N (n : Nat) : fuW n = N (R.sc (-300) n 0) := by
  unfold fuW
  rw [near_N false n 0 (by decide), wd_false]
theorem fuW_mono {m n : Nat} (h : m ≤ n) : fuW m ≤ fuW n := by
  rw [fuW_N, fuW_N]
  exact N_mono (Nat.mul_le_mul_right _ h)
theorem fuW_le {n : Nat} (h : n < 18446744073709551616) : fuW n ≤ 1602224128 := by
  have h1 := fuW_mono (show n ≤ 18446744073709551616 by omega)
  rw [show fuW 18446744073709551616 = 1602224128 by decide +kernel] at h1
  exact h1
end Go.Proofs.Ythadfopkacbnlaa.fl
