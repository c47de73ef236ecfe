/-
  Layer 3, the program: what a sum of two lacks is small, and rounds as the reference's total does (no program in it).
-/
import Derived.Test.YtoaecmoihbifoaaPs
namespace Go.Proofs.Ytoaecmoihbifoaa
open Go.RowKit Go.K Go.R
set_option linter.unusedVariables false
set_option linter.unusedSimpArgs false
/-- A word without its sign, in units of 2 ^ -149. -/
def uW (x : Nat) : Nat := pm (rg x) * 2 ^ shW x
def upU (x : Nat) : Nat := if sgn x then 0 else uW x
def dnU (x : Nat) : Nat := if sgn x then uW x else 0
theorem sW_u (x : Nat) : sW x = (upU x : Int) - (dnU x : Int) := by
  unfold sW upU dnU uW
  split <;> omega
theorem mV_u (x s : Nat) (hs : s = 451) : mV x = uW x * 2 ^ s := by
  unfold mV uW sc
  have := pe_ge (rg x)
  rw [Nat.mul_assoc, ← Nat.pow_add]
  congr 2
  unfold shW
  omega
theorem upV_u (x s : Nat) (hs : s = 451) : upV x = upU x * 2 ^ s := by
  unfold upV upU; split
  · rw [Nat.zero_mul]
  · exact mV_u x s hs
theorem dnV_u (x s : Nat) (hs : s = 451) : dnV x = dnU x * 2 ^ s := by
  unfold dnV dnU; split
  · exact mV_u x s hs
  · rw [Nat.zero_mul]
theorem near_lift (v s : Nat) (hs : s = 451) : Ieee.single.nearest false (v * 2 ^ s) (-600) = Ieee.single.nearest false v (-149) := by
  have h := nearest_scB (-600) (by decide) v (-149) (by decide)
  have e : sc (-600) v (-149) = v * 2 ^ s := by
    unfold sc
    have : ((-149 : Int) - -600).toNat = s := by rw [hs]; rfl
    rw [this]
  rw [e] at h; exact h
theorem sumL_mul (f g : Nat → Nat) (K : Nat) (h : ∀ x, f x = g x * K) : ∀ l : List Nat, sumL f l = sumL g l * K
  | [] => by unfold sumL; simp
  | x :: l => by
    have ih := sumL_mul f g K h l
    unfold sumL at *
    simp only [List.map_cons, List.sum_cons]
    rw [ih, h, Nat.add_mul]
theorem sS_u : ∀ l : List Nat, sS l = (sumL upU l : Int) - (sumL dnU l : Int)
  | [] => rfl
  | x :: l => by
    have ih := sS_u l
    unfold sS sumL at *
    simp only [List.map_cons, List.sum_cons]
    rw [ih, sW_u]; omega
/-- The difference of two sums, rounded. -/
theorem rV_near (U D s : Nat) (hs : s = 451) (z : Int) (hz : z = (U : Int) - (D : Int)) : rV z = nearD (U * 2 ^ s) (D * 2 ^ s) false := by
  have hp := Nat.two_pow_pos s
  unfold rV nearD
  rcases Nat.lt_trichotomy D U with h | h | h
  · have h1 : D * 2 ^ s < U * 2 ^ s := Nat.mul_lt_mul_of_pos_right h hp
    have e : z.natAbs = U - D := by omega
    rw [if_neg (by omega), if_pos h1, decide_eq_false (by omega), e, ← Nat.sub_mul, near_lift _ s hs, wd_false]
  · subst h
    rw [if_pos (by omega), if_neg (Nat.lt_irrefl _), if_neg (Nat.lt_irrefl _), wd_false]
  · have h1 : U * 2 ^ s < D * 2 ^ s := Nat.mul_lt_mul_of_pos_right h hp
    have e : z.natAbs = D - U := by omega
    rw [if_neg (by omega), if_neg (Nat.lt_asymm h1), if_pos h1, decide_eq_true (by omega), e, ← Nat.sub_mul, near_lift _ s hs]
theorem totP_eq (l : List Nat) : totP l = totV l := by
  obtain ⟨s, hs⟩ : ∃ s, s = 451 := ⟨_, rfl⟩
  unfold totP totV
  split
  · rfl
  · rw [rV_near (sumL upU l) (sumL dnU l) s hs (sS l) (sS_u l), sumL_mul upV upU (2 ^ s) (fun x => upV_u x s hs), sumL_mul dnV dnU (2 ^ s) (fun x => dnV_u x s hs)]
theorem k_up (s : Nat) : s * 8388608 + 16777216 = (s + 1) * 8388608 + 8388608 := by omega
/-- The rung of the digits kept is the digits kept at their place. -/
theorem kept_word (v r : Nat) (h0 : 0 < v) (hr : r = (v.log2 - 23) * 8388608 + keptV v) : pm r * 2 ^ (pe r + 149).toNat = keptV v * 2 ^ (v.log2 - 23) := by
  have hk := keptV_le v h0
  have hg := fun hs => keptV_ge v h0 hs
  generalize keptV v = M at *
  generalize v.log2 - 23 = s at *
  by_cases h : M < 16777216
  · obtain ⟨p1, p2⟩ := rung_parts s M h (by by_cases hs : s = 0; exact .inl hs; exact .inr (hg (by omega)))
    rw [hr, p1, p2]
    congr 2; omega
  · have hM : M = 16777216 := by omega
    have e0 : r = (s + 1) * 8388608 + 8388608 := by rw [hr, hM]; exact k_up s
    obtain ⟨p1, p2⟩ := rung_parts (s + 1) 8388608 (by decide) (.inr (Nat.le_refl _))
    rw [e0, p1, p2, hM]
    have e1 : (((s + 1 : Nat) : Int) - 149 + 149).toNat = s + 1 := by omega
    rw [e1, Nat.pow_succ]
    generalize (2 : Nat) ^ s = Q
    omega
theorem kept_near (v : Nat) : (v : Int) - (keptV v * 2 ^ (v.log2 - 23) : Nat) ≤ (2 ^ (v.log2 - 23) : Nat) ∧ -((2 ^ (v.log2 - 23) : Nat) : Int) ≤ (v : Int) - (keptV v * 2 ^ (v.log2 - 23) : Nat) := by
  unfold keptV
  have hp := Nat.two_pow_pos (v.log2 - 23)
  generalize hU : 2 ^ (v.log2 - 23) = U at *
  have h1 := Nat.div_add_mod v U
  have h2 := Nat.mod_lt v hp
  have hm : (more v U).toNat ≤ 1 := by cases more v U <;> decide
  have h3 : (more v U).toNat = 0 ∨ (more v U).toNat = 1 := by omega
  rw [Nat.add_mul, Nat.mul_comm (v / U)]
  generalize U * (v / U) = q at *
  generalize v % U = r at *
  rcases h3 with h | h
  · rw [h, Nat.zero_mul]; omega
  · rw [h, Nat.one_mul]; omega
theorem log2_small {z : Int} {s : Nat} (hs : s ≤ 269) (h1 : z ≤ (2 ^ s : Nat)) (h2 : -((2 ^ s : Nat) : Int) ≤ z) : z.natAbs.log2 ≤ 270 := by
  by_cases h0 : z.natAbs = 0
  · rw [h0]; decide
  · have h3 : z.natAbs < 2 ^ (s + 1) := by
      rw [Nat.pow_succ]
      have hp := Nat.two_pow_pos s
      generalize (2 : Nat) ^ s = Q at *
      omega
    have := (Nat.log2_lt h0).2 h3
    omega
theorem uW_flip {x : Nat} (h : x < 4294967296) : sW (flip x) = -sW x := by
  unfold sW shW
  rw [rg_flip h, sgn_flip h]
  cases sgn x
  · simp
  · simp
theorem wd_sgn (s : Bool) (r : Nat) (h : r < 2147483648) : sgn (wd s r) = s := by
  unfold sgn wd
  cases s
  · rw [if_neg (by decide)]
    have : r / 2147483648 % 2 = 0 := by omega
    rw [this]; rfl
  · rw [if_pos rfl]
    have : (2147483648 + r) / 2147483648 % 2 = 1 := by omega
    rw [this]; rfl
/-- A rounded number and what it was, not far apart. -/
theorem near_rest (v : Nat) (s : Bool) (h0 : 0 < v) (hf : rg (wd s (Ieee.single.nearest false v (-149))) < 2139095040) :
    ∃ (R : Nat) (t : Nat), sW (wd s (Ieee.single.nearest false v (-149))) = (if s then -(R : Int) else (R : Int)) ∧ t ≤ 269 ∧ (v : Int) - R ≤ (2 ^ t : Nat) ∧ -((2 ^ t : Nat) : Int) ≤ (v : Int) - R := by
  have hm := near_min v h0
  have hk := kept_near v
  have hg := fun hs => keptV_ge v h0 hs
  obtain ⟨r, hr⟩ : ∃ r, r = Ieee.single.nearest false v (-149) := ⟨_, rfl⟩
  rw [← hr] at hf hm ⊢
  have hle : r < 2147483648 := by omega
  rw [rg_wd s r hle] at hf
  have hrr : r = (v.log2 - 23) * 8388608 + keptV v := by omega
  refine ⟨keptV v * 2 ^ (v.log2 - 23), v.log2 - 23, ?_, ?_, hk.1, hk.2⟩
  · have hw := kept_word v r h0 hrr
    unfold sW shW
    rw [rg_wd s r hle, wd_sgn s r hle, hw]
  · by_cases hs : 0 < v.log2 - 23
    · have := hg hs; omega
    · omega
theorem rest_small (x y : Nat) (hx : x < 4294967296) (hy : y < 4294967296) (fx : rg x < 2139095040) (fy : rg y < 2139095040) (fs : rg (twoS x y) < 2139095040) : (sS [x, y, flip (twoS x y)]).natAbs.log2 ≤ 270 := by
  obtain ⟨s, hs⟩ : ∃ s, s = 451 := ⟨_, rfl⟩
  have e : sS [x, y, flip (twoS x y)] = ((upU x + upU y : Nat) : Int) - ((dnU x + dnU y : Nat) : Int) - sW (twoS x y) := by
    have e1 : sS [x, y, flip (twoS x y)] = sW x + (sW y + (sW (flip (twoS x y)) + 0)) := rfl
    rw [e1, uW_flip (add_lt32 x y), sW_u x, sW_u y]; omega
  have e2 : twoS x y = nearD ((upU x + upU y) * 2 ^ s) ((dnU x + dnU y) * 2 ^ s) (sgn x && sgn y) := by
    unfold twoS
    rw [add_num fx fy, upV_u x s hs, upV_u y s hs, dnV_u x s hs, dnV_u y s hs, Nat.add_mul, Nat.add_mul]
  rw [e]
  clear e
  generalize upU x + upU y = U at *
  generalize dnU x + dnU y = D at *
  generalize (sgn x && sgn y) = z at *
  generalize twoS x y = t at *
  subst e2
  have hp := Nat.two_pow_pos s
  unfold nearD at *
  rcases Nat.lt_trichotomy D U with h | h | h
  · have h1 : D * 2 ^ s < U * 2 ^ s := Nat.mul_lt_mul_of_pos_right h hp
    rw [if_pos h1, ← Nat.sub_mul, near_lift _ s hs, ← wd_false (Ieee.single.nearest false (U - D) (-149))] at fs
    rw [if_pos h1, ← Nat.sub_mul, near_lift _ s hs, ← wd_false (Ieee.single.nearest false (U - D) (-149))]
    obtain ⟨R, t, h2, h3, h4, h5⟩ := near_rest (U - D) false (by clear hs; omega) fs
    rw [h2, if_neg (by decide)]
    clear hs hp h1 fs
    exact log2_small (s := t) h3 (by generalize (2 : Nat) ^ t = Q at *; omega) (by generalize (2 : Nat) ^ t = Q at *; omega)
  · subst h
    rw [if_neg (Nat.lt_irrefl _), if_neg (Nat.lt_irrefl _)]
    have h0 : sW (wd z 0) = 0 := by cases z <;> decide
    rw [h0]
    have : ((D : Int) - (D : Int) - 0) = 0 := by omega
    rw [this]; decide
  · have h1 : U * 2 ^ s < D * 2 ^ s := Nat.mul_lt_mul_of_pos_right h hp
    rw [if_neg (Nat.lt_asymm h1), if_pos h1, ← Nat.sub_mul, near_lift _ s hs] at fs
    rw [if_neg (Nat.lt_asymm h1), if_pos h1, ← Nat.sub_mul, near_lift _ s hs]
    obtain ⟨R, t, h2, h3, h4, h5⟩ := near_rest (D - U) true (by clear hs; omega) fs
    rw [h2, if_pos rfl]
    clear hs hp h1 fs
    exact log2_small (s := t) h3 (by generalize (2 : Nat) ^ t = Q at *; omega) (by generalize (2 : Nat) ^ t = Q at *; omega)
/-- Nothing added: no zero with a sign is left. -/
theorem add_zero (t : Nat) (ht : t < 4294967296) (h : rg t < 2139095040) : Ieee.single.add t 0 = some (if rg t = 0 then 0 else t) := by
  have h1 := add_num h (show rg 0 < 2139095040 by decide)
  have u0 : upV 0 = 0 := by unfold upV mV sc; rw [show pm (rg 0) = 0 by decide, Nat.zero_mul]; split <;> rfl
  have d0 : dnV 0 = 0 := by unfold dnV; rw [if_neg (by decide)]
  have s0 : sgn 0 = false := by decide
  rw [u0, d0, s0, Nat.add_zero, Nat.add_zero, Bool.and_false] at h1
  have hk := kind_word ht
  have hv : nearD (upV t) (dnV t) false = if rg t = 0 then 0 else t := by
    unfold nearD upV dnV
    by_cases h0 : mV t = 0
    · have hr := mV_zero h0
      rw [if_pos hr]
      have e1 : (if sgn t then 0 else mV t) = 0 := by split <;> first | rfl | exact h0
      have e2 : (if sgn t then mV t else 0) = 0 := by split <;> first | rfl | exact h0
      rw [e1, e2]; rfl
    · have hr : rg t ≠ 0 := fun hr => h0 (by unfold mV sc; rw [hr, pm_zero, Nat.zero_mul])
      have hn : Ieee.single.nearest false (mV t) (-600) = rg t := by
        unfold mV
        rw [nearest_sc _ _ (by have := pe_ge (rg t); omega), nearest_self _ h]
      rw [if_neg hr]
      cases hsg : sgn t
      · rw [hsg] at hk
        simp only [Bool.false_eq_true, if_false]
        rw [if_pos (by omega), Nat.sub_zero, hn]
        exact hk.symm
      · rw [hsg] at hk
        simp only [if_true]
        rw [if_neg (by omega), if_pos (by omega), Nat.sub_zero, hn]
        exact hk.symm
  rw [hv] at h1
  have hfin : rg (if rg t = 0 then 0 else t) < 2139095040 := by
    split
    · decide
    · exact h
  have hne : (if rg t = 0 then 0 else t) ≠ 2143289344 := by
    intro h2
    rw [h2] at hfin
    exact absurd hfin (by decide)
  generalize (if rg t = 0 then 0 else t) = N at *
  cases ha : Ieee.single.add t 0 with
  | none => rw [ha] at h1; exact absurd h1.symm hne
  | some r =>
    rw [ha] at h1
    have h2 : cleanW r = N := h1
    unfold cleanW at h2
    split at h2
    · exact absurd h2.symm hne
    · rw [h2]
end Go.Proofs.Ytoaecmoihbifoaa
