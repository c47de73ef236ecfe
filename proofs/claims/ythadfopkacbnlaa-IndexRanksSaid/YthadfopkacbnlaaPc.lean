/-
  Layer 18: the swings' sums: finite; those of k and of 8 less k.
-/
import Derived.Test.YthadfopkacbnlaaPb
import Derived.Test.YthadfopkacbnlaaTd
namespace Go.Proofs.Ythadfopkacbnlaa.fl
open Ieee
set_option linter.unusedVariables false
set_option linter.unusedSimpArgs false
open n03 (rg sgn wd opW)
theorem V_dbl {r : Nat} (h : 8388608 ≤ r) : V (r + 8388608) = 2 * V r := by
  unfold V R.sc R.pm R.pe
  rw [if_neg (by omega), if_neg (by omega), if_neg (by omega), if_neg (by omega), Nat.add_mod_right, Nat.add_div_right _ (by decide)]
  generalize r % 8388608 + 8388608 = m
  obtain ⟨e, he⟩ : ∃ e, e = r / 8388608 := ⟨_, rfl⟩
  have he1 : 1 ≤ e := by rw [he]; omega
  rw [← he]
  have e2 : ((((e + 1 : Nat) : Int) - 150) - -300).toNat = (((e : Int) - 150) - -300).toNat + 1 := by omega
  rw [e2, Nat.pow_succ]
  ac_rfl
def bnd (t : Nat) : Nat := 1602224128 + t * 8388608
theorem V_one {v : Nat} (hv : v = 150) : V 1065353216 = 2 ^ v * 2 ^ v := by
  unfold V R.sc R.pm R.pe
  rw [if_neg (by decide), if_neg (by decide), show 1065353216 % 8388608 + 8388608 = 2 ^ 23 from rfl, ← Nat.pow_add, ← Nat.pow_add]
  congr 1
  rw [hv]; decide
theorem mulB (s t : Bool) {d m : Nat} (hd : d < 2139095040) (hm : m ≤ 1065353216) : ∃ n, opW (single.mul (wd s d) (wd t m)) = wd (s ^^ t) n ∧ n ≤ d ∧ (m = 0 → n = 0) ∧ (m = 1065353216 → n = d) := by
  obtain ⟨X, hX, h1⟩ := mul_wd s t hd (q := m) (by omega)
  refine ⟨N X, h1, ?_⟩
  obtain ⟨v, hv⟩ : ∃ v : Nat, v = 150 := ⟨_, rfl⟩
  have h2 := V_one hv
  have h3 := V_mono hm (by decide)
  rw [← hv] at hX
  rw [h2] at h3
  have hp : 0 < 2 ^ v * 2 ^ v := Nat.mul_pos (Nat.two_pow_pos _) (Nat.two_pow_pos _)
  refine ⟨N_le (by omega) (Nat.le_of_mul_le_mul_right (by rw [hX]; exact Nat.mul_le_mul_left _ h3) hp), fun h0 => ?_, fun h1 => ?_⟩
  · rw [h0, V_zero, Nat.mul_zero] at hX
    have : X = 0 := by
      rcases Nat.mul_eq_zero.1 hX with h | h
      · exact h
      · omega
    rw [this, N_zero]
  · rw [h1, h2] at hX
    rw [Nat.eq_of_mul_eq_mul_right hp hX, N_V (by omega)]
theorem sv_abs (s : Bool) (r : Nat) : (sv s r).natAbs = V r := by
  unfold sv; cases s <;> simp
theorem addB {s u : Bool} {r n t : Nat} (ht : t ≤ 8) (hr : r ≤ bnd t) (hn : n ≤ 1602224128) (T : Int) (hT : T = sv s r + sv u n) : opW (single.add (wd s r) (wd u n)) = wd (if T = 0 then s && u else decide (T < 0)) (N T.natAbs) ∧ N T.natAbs ≤ bnd (t + 1) := by
  unfold bnd at *
  refine ⟨add_wd s u (by omega) (by omega) T hT, ?_⟩
  have h1 := V_mono hr (by omega)
  have h2 := V_mono (show n ≤ 1602224128 + t * 8388608 by omega) (by omega)
  have h3 := V_dbl (r := 1602224128 + t * 8388608) (by omega)
  have h4 : T.natAbs ≤ V r + V n := by
    rw [hT, ← sv_abs s r, ← sv_abs u n]; exact Int.natAbs_add_le _ _
  refine N_le (by omega) ?_
  rw [show 1602224128 + (t + 1) * 8388608 = 1602224128 + t * 8388608 + 8388608 by omega, h3]
  omega
def IsB (x b : Nat) : Prop := ∃ s r, x = wd s r ∧ r ≤ b
theorem e0_B {j : Nat} (h : j < 8) : IsB (e0 j) 1065353216 := by
  match j, h with
  | 0, _ => exact ⟨false, 1065353216, rfl, by decide⟩
  | 1, _ => exact ⟨false, 1060439283, rfl, by decide⟩
  | 2, _ => exact ⟨false, 0, rfl, by decide⟩
  | 3, _ => exact ⟨true, 1060439283, rfl, by decide⟩
  | 4, _ => exact ⟨true, 1065353216, rfl, by decide⟩
  | 5, _ => exact ⟨true, 1060439283, rfl, by decide⟩
  | 6, _ => exact ⟨false, 0, rfl, by decide⟩
  | 7, _ => exact ⟨false, 1060439283, rfl, by decide⟩
theorem step_B {x d e t : Nat} (ht : t ≤ 8) (hx : IsB x (bnd t)) (hd : d ≤ 1602224128) (he : IsB e 1065353216) : IsB (addM x d e) (bnd (t + 1)) := by
  obtain ⟨s, r, rfl, hr⟩ := hx
  obtain ⟨u, m, rfl, hm⟩ := he
  obtain ⟨n, h1, h2, _⟩ := mulB false u (show d < 2139095040 by omega) hm
  rw [wd_false] at h1
  unfold addM
  rw [h1]
  obtain ⟨h3, h4⟩ := addB ht hr (show n ≤ 1602224128 by omega) (u := (false ^^ u)) _ rfl
  exact ⟨_, _, h3, h4⟩
theorem re_B {day : Nat → Nat} (hd : ∀ h, day h ≤ 1602224128) (q : Nat) : ∀ t, t ≤ 8 → IsB (reV day q t) (bnd t)
  | 0, _ => ⟨false, 0, rfl, Nat.zero_le _⟩
  | t + 1, h => step_B (by omega) (re_B hd q t (by omega)) (hd t) (e0_B (Nat.mod_lt _ (by decide)))
/-- The one the other's opposite. -/
def Opp (x y b : Nat) : Prop := ∃ s s' r, x = wd s r ∧ y = wd s' r ∧ r ≤ b ∧ sv s' r = -sv s r
theorem e1_opp {i j : Nat} (hi : i < 8) (hj : j < 8) (h : (i + j) % 8 = 0) : ∃ u u' m, e1 i = wd u m ∧ e1 j = wd u' m ∧ m ≤ 1065353216 ∧ (m = 0 ∨ u' = !u) := by
  match i, hi with
  | 0, _ => obtain rfl : j = 0 := by omega
            exact ⟨false, false, 0, rfl, rfl, by decide, .inl rfl⟩
  | 1, _ => obtain rfl : j = 7 := by omega
            exact ⟨true, false, 1060439283, rfl, rfl, by decide, .inr rfl⟩
  | 2, _ => obtain rfl : j = 6 := by omega
            exact ⟨true, false, 1065353216, rfl, rfl, by decide, .inr rfl⟩
  | 3, _ => obtain rfl : j = 5 := by omega
            exact ⟨true, false, 1060439283, rfl, rfl, by decide, .inr rfl⟩
  | 4, _ => obtain rfl : j = 4 := by omega
            exact ⟨false, false, 0, rfl, rfl, by decide, .inl rfl⟩
  | 5, _ => obtain rfl : j = 3 := by omega
            exact ⟨false, true, 1060439283, rfl, rfl, by decide, .inr rfl⟩
  | 6, _ => obtain rfl : j = 2 := by omega
            exact ⟨false, true, 1065353216, rfl, rfl, by decide, .inr rfl⟩
  | 7, _ => obtain rfl : j = 1 := by omega
            exact ⟨false, true, 1060439283, rfl, rfl, by decide, .inr rfl⟩
theorem e0_same {i j : Nat} (hi : i < 8) (hj : j < 8) (h : (i + j) % 8 = 0) : e0 i = e0 j := by
  match i, hi with
  | 0, _ => obtain rfl : j = 0 := by omega
            rfl
  | 1, _ => obtain rfl : j = 7 := by omega
            rfl
  | 2, _ => obtain rfl : j = 6 := by omega
            rfl
  | 3, _ => obtain rfl : j = 5 := by omega
            rfl
  | 4, _ => obtain rfl : j = 4 := by omega
            rfl
  | 5, _ => obtain rfl : j = 3 := by omega
            rfl
  | 6, _ => obtain rfl : j = 2 := by omega
            rfl
  | 7, _ => obtain rfl : j = 1 := by omega
            rfl
theorem sv_zero (s : Bool) : sv s 0 = 0 := by unfold sv; rw [V_zero]; cases s <;> rfl
theorem sv_not (s : Bool) (r : Nat) : sv (!s) r = -sv s r := by unfold sv; cases s <;> simp
theorem mod_opp {q q' : Nat} (h : (q + q') % 8 = 0) (t : Nat) : (q * t % 8 + q' * t % 8) % 8 = 0 := by
  obtain ⟨c, hc⟩ : ∃ c, q + q' = 8 * c := ⟨(q + q') / 8, by omega⟩
  have h1 : q * t + q' * t = 8 * (c * t) := by rw [← Nat.add_mul, hc, Nat.mul_assoc]
  omega
theorem re_same (day : Nat → Nat) {q q' : Nat} (h : (q + q') % 8 = 0) : ∀ t, reV day q t = reV day q' t
  | 0 => rfl
  | t + 1 => by
    unfold reV
    rw [re_same day h t, e0_same (Nat.mod_lt _ (by decide)) (Nat.mod_lt _ (by decide)) (mod_opp h t)]
theorem sgn_sv (T : Int) (z : Bool) (r : Nat) (h : T = 0 → V r = 0) : sv (if T = 0 then z else decide (T < 0)) r = if T < 0 then -(V r : Int) else (V r : Int) := by
  unfold sv
  by_cases c : T = 0
  · rw [if_pos c, h c, if_neg (show ¬ T < 0 by omega)]; cases z <;> rfl
  · rw [if_neg c]
    by_cases d : T < 0
    · rw [decide_eq_true d, if_pos d]; rfl
    · rw [decide_eq_false d, if_neg d]; rfl
theorem sgn_of {s : Bool} {r : Nat} (T : Int) (hT : T = sv s r) (z : Bool) : sv (if T = 0 then z else decide (T < 0)) r = T := by
  have hz : T = 0 → V r = 0 := fun h => by have := sv_abs s r; rw [← hT, h] at this; exact this.symm
  rw [sgn_sv T z r hz]
  unfold sv at hT
  cases s
  · have e : T = (V r : Int) := hT
    rw [if_neg (by omega)]; exact e.symm
  · have e : T = -(V r : Int) := hT
    split <;> omega
theorem im_opp {day : Nat → Nat} (hd : ∀ h, day h ≤ 1602224128) {q q' : Nat} (h : (q + q') % 8 = 0) : ∀ t, t ≤ 8 → Opp (imV day q t) (imV day q' t) (bnd t)
  | 0, _ => ⟨false, false, 0, rfl, rfl, Nat.zero_le _, by rw [sv_zero]; rfl⟩
  | t + 1, ht => by
    obtain ⟨s, s', r, h1, h2, h3, h4⟩ := im_opp hd h t (by omega)
    obtain ⟨u, u', m, k1, k2, k3, k4⟩ := e1_opp (Nat.mod_lt (q * t) (by decide)) (Nat.mod_lt (q' * t) (by decide)) (mod_opp h t)
    have hdt := hd t
    obtain ⟨n, n1, n2, n3, _⟩ := mulB false u (show day t < 2139095040 by omega) k3
    obtain ⟨n', m1, m2, m3, _⟩ := mulB false u' (show day t < 2139095040 by omega) k3
    have hnn : n' = n := by
      have e1 : opW (single.mul (wd false (day t)) (wd u m)) = wd (false ^^ u) n := n1
      rcases k4 with h0 | h0
      · rw [n3 h0, m3 h0]
      · obtain ⟨X, hX, a1⟩ := mul_wd false u (show day t < 2139095040 by omega) (q := m) (by omega)
        obtain ⟨Y, hY, b1⟩ := mul_wd false u' (show day t < 2139095040 by omega) (q := m) (by omega)
        obtain ⟨v, hv⟩ : ∃ v : Nat, v = 150 := ⟨_, rfl⟩
        rw [← hv] at hX hY
        have hp : 0 < 2 ^ v * 2 ^ v := Nat.mul_pos (Nat.two_pow_pos _) (Nat.two_pow_pos _)
        have hXY : X = Y := Nat.eq_of_mul_eq_mul_right hp (hX.trans hY.symm)
        have hNX := N_inf X
        have hNY := N_inf Y
        have c1 := congrArg rg (n1.symm.trans a1)
        have c2 := congrArg rg (m1.symm.trans b1)
        rw [rg_wd _ (by omega), rg_wd _ (by omega)] at c1 c2
        rw [c1, c2, hXY]
    subst hnn
    have hsv : sv (false ^^ u') n' = -sv (false ^^ u) n' := by
      rcases k4 with h0 | h0
      · rw [n3 h0, sv_zero, sv_zero]; rfl
      · rw [h0]
        show sv (false ^^ !u) n' = _
        rw [Bool.false_xor, Bool.false_xor, sv_not]
    obtain ⟨a1, a2⟩ := addB (show t ≤ 8 by omega) h3 (show n' ≤ 1602224128 by omega) (s := s) (u := (false ^^ u)) _ rfl
    obtain ⟨b1, b2⟩ := addB (show t ≤ 8 by omega) h3 (show n' ≤ 1602224128 by omega) (s := s') (u := (false ^^ u')) _ rfl
    have hneg : sv s' r + sv (false ^^ u') n' = -(sv s r + sv (false ^^ u) n') := by rw [h4, hsv]; omega
    obtain ⟨T, hT⟩ : ∃ T, T = sv s r + sv (false ^^ u) n' := ⟨_, rfl⟩
    rw [← hT] at a1 a2
    rw [hneg, ← hT] at b1 b2
    rw [Int.natAbs_neg] at b1 b2
    unfold imV addM
    rw [wd_false] at n1 m1
    rw [k1, k2, n1, m1, h1, h2, a1, b1]
    have hz : V (N T.natAbs) = 0 ∨ T ≠ 0 := by
      by_cases c : T = 0
      · left; rw [c]; show V (N 0) = 0; rw [N_zero, V_zero]
      · exact .inr c
    refine ⟨_, _, _, rfl, rfl, a2, ?_⟩
    have hz1 : T = 0 → V (N T.natAbs) = 0 := fun c => by
      rcases hz with h | h
      · exact h
      · exact absurd c h
    rw [sgn_sv (-T) _ _ (fun c => hz1 (by omega)), sgn_sv T _ _ hz1]
    by_cases c : T = 0
    · rw [hz1 c, c]; rfl
    · by_cases d : T < 0
      · rw [if_pos d, if_neg (by omega)]; omega
      · rw [if_neg d, if_pos (by omega)]
theorem opp_B {x y b : Nat} (h : Opp x y b) : IsB x b := by
  obtain ⟨s, s', r, h1, h2, h3, _⟩ := h; exact ⟨s, r, h1, h3⟩
theorem add_some (s t : Bool) {r q : Nat} (hr : r < 2139095040) (hq : q < 2139095040) (T : Int) (hT : T = sv s r + sv t q) :
    floatBits .add .f32 (wd s r) (wd t q) = some (wd (if T = 0 then s && t else decide (T < 0)) (N T.natAbs)) := by
  have h1 := add_wd s t hr hq T hT
  have h2 : ∃ x, single.add (wd s r) (wd t q) = some x := by
    unfold Format.add
    rw [read_wd s hr, read_wd t hq]
    exact ⟨_, rfl⟩
  obtain ⟨x, hx⟩ := h2
  show single.add (wd s r) (wd t q) = _
  rw [hx] at h1 ⊢
  have hN := N_inf T.natAbs
  generalize (if T = 0 then s && t else decide (T < 0)) = z at *
  congr 1
  have h3 : n03.cleanW x = wd z (N T.natAbs) := h1
  unfold n03.cleanW at h3
  split at h3
  · exfalso
    unfold wd at h3
    cases z
    · rw [if_neg (by simp)] at h3; omega
    · rw [if_pos rfl] at h3; omega
  · exact h3
theorem last_add (s : Bool) {r : Nat} (hr : r < 2139095040) : ∃ z, floatBits .add .f32 (wd s r) 0 = some (wd z r) ∧ sv z r = sv s r := by
  have h1 := add_some s false hr (q := 0) (by decide) (sv s r) (by rw [sv_zero, Int.add_zero])
  rw [wd_false, sv_abs, N_V (by omega)] at h1
  exact ⟨_, h1, sgn_of _ rfl _⟩
theorem cmp_mul {P : Int} (hP : 0 < P) (a b : Int) : compare (a * P) (b * P) = compare a b := by
  show compareOfLessAndEq _ _ = compareOfLessAndEq _ _
  unfold compareOfLessAndEq
  rcases Int.lt_trichotomy a b with h | h | h
  · have := Int.mul_lt_mul_of_pos_right h hP
    rw [if_pos h, if_pos this]
  · subst h
    rw [if_neg (Int.lt_irrefl _), if_neg (Int.lt_irrefl _), if_pos rfl, if_pos rfl]
  · have := Int.mul_lt_mul_of_pos_right h hP
    rw [if_neg (by omega), if_neg (by omega), if_neg (by omega), if_neg (by omega)]
theorem order_sv (s t : Bool) {r q : Nat} (hr : r < 2139095040) (hq : q < 2139095040) : FloatKind.f32.format.order (wd s r) (wd t q) = some (compare (sv s r) (sv t q)) := by
  have h1 := R.pe_ge r
  have h2 := R.pe_ge q
  show (single.read (wd s r)).order (single.read (wd t q)) = _
  rw [read_wd s hr, read_wd t hq]
  obtain ⟨base, hb⟩ : ∃ base, base = min (R.pe r) (R.pe q) := ⟨_, rfl⟩
  show some (compare (signed s (R.pm r) (R.pe r - min (R.pe r) (R.pe q)).toNat) (signed t (R.pm q) (R.pe q - min (R.pe r) (R.pe q)).toNat)) = _
  rw [← hb]
  have hp : (0 : Int) < ((2 ^ (base + 300).toNat : Nat) : Int) := by have := Nat.two_pow_pos (base + 300).toNat; omega
  rw [← cmp_mul hp, signed_val s _ _ _ (by omega) (by omega), signed_val t _ _ _ (by omega) (by omega)]
  rfl
theorem cmp_self (a : Int) : compare a a = .eq := by
  show compareOfLessAndEq a a = _
  unfold compareOfLessAndEq
  rw [if_neg (by omega), if_pos rfl]
theorem order_eq (s t : Bool) {r q : Nat} (hr : r < 2139095040) (hq : q < 2139095040) (h : sv s r = sv t q) : FloatKind.f32.format.order (wd s r) (wd t q) = some .eq := by
  rw [order_sv s t hr hq, h, cmp_self]
theorem neg_wd (s : Bool) {r : Nat} (h : r < 2139095040) : Op.negFloat .f32 (wd s r) = wd (!s) r := by
  show wd s r ^^^ 2 ^ 31 = _
  have h1 : r ^^^ 2 ^ 31 = r + 2 ^ 31 := by
    rw [Nat.xor_comm, Nat.add_comm]
    have := Nat.two_pow_add_eq_or_of_lt (i := 31) (b := r) (by omega) 1
    have e : (2 ^ 31 ^^^ r) = 2 ^ 31 ||| r := by
      apply Nat.eq_of_testBit_eq
      intro i
      rw [Nat.testBit_xor, Nat.testBit_or, Nat.testBit_two_pow]
      by_cases c : 31 = i
      · subst c
        rw [Nat.testBit_lt_two_pow (show r < 2 ^ 31 by omega)]; simp
      · simp [c]
    rw [e]; simpa using this.symm
  unfold wd
  cases s
  · show r ^^^ 2 ^ 31 = 2147483648 + r
    rw [h1]; omega
  · show (2147483648 + r) ^^^ 2 ^ 31 = r
    rw [show 2147483648 + r = r ^^^ 2 ^ 31 by rw [h1]; omega, Nat.xor_assoc, Nat.xor_self, Nat.xor_zero]
/-- What the swings of q and of its opposite are told. -/
theorem swings {day : Nat → Nat} (hd : ∀ h, day h ≤ 1602224128) {q q' : Nat} (h : (q + q') % 8 = 0) : ∃ R I I', floatBits .add .f32 (reV day q 8) 0 = some R ∧ floatBits .add .f32 (reV day q' 8) 0 = some R ∧ floatBits .add .f32 (imV day q 8) 0 = some I ∧ floatBits .add .f32 (imV day q' 8) 0 = some I' ∧
    FloatKind.f32.format.order R R = some .eq ∧ FloatKind.f32.format.order I I = some .eq ∧ FloatKind.f32.format.order I (Op.negFloat .f32 I') = some .eq := by
  obtain ⟨s, r, h1, h2⟩ := re_B hd q 8 (by decide)
  obtain ⟨u, u', m, k1, k2, k3, k4⟩ := im_opp hd h 8 (by decide)
  unfold bnd at h2 k3
  obtain ⟨a, a1, a2⟩ := last_add s (show r < 2139095040 by omega)
  obtain ⟨b, b1, b2⟩ := last_add u (show m < 2139095040 by omega)
  obtain ⟨c, c1, c2⟩ := last_add u' (show m < 2139095040 by omega)
  rw [← h1] at a1
  rw [← k1] at b1
  rw [← k2] at c1
  refine ⟨_, _, _, a1, by rw [← re_same day h 8]; exact a1, b1, c1, order_eq _ _ (by omega) (by omega) rfl, order_eq _ _ (by omega) (by omega) rfl, ?_⟩
  rw [neg_wd _ (by omega)]
  refine order_eq _ _ (by omega) (by omega) ?_
  rw [sv_not, b2, c2, k4]; omega
/-- The day's sum. -/
def sumD (day : Nat → Nat) : Nat → Nat | 0 => 0 | t + 1 => opW (single.add (sumD day t) (day t))
theorem re_sum {day : Nat → Nat} (hd : ∀ h, day h ≤ 1602224128) : ∀ t, reV day 0 t = sumD day t
  | 0 => rfl
  | t + 1 => by
    have hdt := hd t
    obtain ⟨n, n1, _, _, n4⟩ := mulB false false (show day t < 2139095040 by omega) (Nat.le_refl 1065353216)
    rw [n4 rfl, wd_false, wd_false] at n1
    unfold reV sumD addM
    rw [re_sum hd t, Nat.zero_mul]
    show opW (single.add _ (opW (single.mul (day t) 1065353216))) = _
    rw [n1]; rfl
theorem re_zero {day : Nat → Nat} (hd : ∀ h, day h ≤ 1602224128) {R : Nat} (hR : floatBits .add .f32 (reV day 0 8) 0 = some R) : FloatKind.f32.format.order R (sumD day 8) = some .eq := by
  obtain ⟨s, r, h1, h2⟩ := re_B hd 0 8 (by decide)
  unfold bnd at h2
  obtain ⟨a, a1, a2⟩ := last_add s (show r < 2139095040 by omega)
  rw [← re_sum hd 8, h1]
  rw [h1, a1] at hR
  cases hR
  exact order_eq _ _ (by omega) (by omega) a2
theorem im_zero {day : Nat → Nat} (hd : ∀ h, day h ≤ 1602224128) {q : Nat} (hq : q = 0 ∨ q = 4) {I : Nat} (hI : floatBits .add .f32 (imV day q 8) 0 = some I) : FloatKind.f32.format.order I 0 = some .eq := by
  obtain ⟨u, u', m, k1, k2, k3, k4⟩ := im_opp hd (q := q) (q' := q) (by omega) 8 (by decide)
  unfold bnd at k3
  obtain ⟨b, b1, b2⟩ := last_add u (show m < 2139095040 by omega)
  have e : u = u' := by
    have := congrArg sgn (k1.symm.trans k2)
    rw [sgn_wd _ (by omega), sgn_wd _ (by omega)] at this; exact this
  rw [k1, b1] at hI
  cases hI
  have h0 : sv u m = 0 := by rw [← e] at k4; omega
  have := order_eq b false (show m < 2139095040 by omega) (q := 0) (by decide) (by rw [b2, h0, sv_zero])
  rw [wd_false] at this
  exact this
end Go.Proofs.Ythadfopkacbnlaa.fl
