/-
  Reals: from chapter 3's Nk, what is needed here.
-/
import Derived.Test.YthadfopkacbnlaaRNj
namespace Go.Proofs.Ythadfopkacbnlaa.n03
open Go.RowKit Go.K Go.R
open Ieee (Format Datum Toward)
set_option linter.unusedVariables false
set_option linter.unusedSimpArgs false
theorem single_small (m : Nat) (p : Int) (h0 : 0 < m) (hp : -5000 ≤ p) (h : p + m.log2 ≤ 64) : Ieee.single.nearest false m p < 2139095040 := by
  unfold Format.nearest
  rw [if_neg (by omega), single_least, single_binade, single_inf]
  generalize hlast : max (p + (m.log2 : Int) - ((Ieee.single.fractionBits : Nat) : Int)) (-149) = last
  have hf : Ieee.single.fractionBits = 23 := rfl
  rw [hf] at hlast
  have hl : -149 ≤ last := by omega
  have hl2 : last ≤ 41 := by omega
  dsimp only
  rw [cut_units false m p last (-5000) hp (by omega), wd_word, wd_false]
  have hX1 : sc (-5000) m p < 16777216 * 2 ^ (last - -5000).toNat := by
    have h1 : m < 2 ^ (m.log2 + 1) := Nat.lt_log2_self
    have h2 : sc (-5000) m p < 2 ^ (m.log2 + 1) * 2 ^ (p - -5000).toNat := Nat.mul_lt_mul_of_pos_right h1 (Nat.two_pow_pos _)
    have h3 : (2 : Nat) ^ (m.log2 + 1) * 2 ^ (p - -5000).toNat ≤ 2 ^ 24 * 2 ^ (last - -5000).toNat := by
      rw [← Nat.pow_add, ← Nat.pow_add]; exact Nat.pow_le_pow_right (by omega) (by omega)
    exact Nat.lt_of_lt_of_le h2 h3
  have hq : sc (-5000) m p / 2 ^ (last - -5000).toNat < 16777216 := by rw [Nat.div_lt_iff_lt_mul (Nat.two_pow_pos _)]; exact hX1
  have hm : (more (sc (-5000) m p) (2 ^ (last - -5000).toNat)).toNat ≤ 1 := by cases more (sc (-5000) m p) (2 ^ (last - -5000).toNat) <;> decide
  generalize (more (sc (-5000) m p) (2 ^ (last - -5000).toNat)).toNat = mo at *
  generalize sc (-5000) m p / 2 ^ (last - -5000).toNat = q at *
  have hk : (last - -149).toNat ≤ 190 := by omega
  generalize (last - -149).toNat = k at *
  have hle : k * 8388608 + (q + mo) < 2139095040 := by clear hX1; omega
  exact Nat.lt_of_le_of_lt (Nat.min_le_left _ _) hle
theorem cleanW_le {r : Nat} (h : r ≤ 2139095040) : cleanW r = r := by
  have h1 : nanW r = false := by
    unfold nanW
    exact decide_eq_false (by omega)
  unfold cleanW
  rw [h1]; rfl
theorem nearest_finite (m : Nat) (p : Int) (h : Ieee.single.nearest false m p < 2139095040) : (Ieee.single.read (Ieee.single.nearest false m p)).isInfinity = false := by
  generalize Ieee.single.nearest false m p = r at *
  have hr : rg r = r := Nat.mod_eq_of_lt (by omega)
  rw [read_num (by rw [hr]; exact h)]; rfl
theorem widen_num {x : Nat} {s : Bool} {m : Nat} {i : Int} (h : Ieee.single.read x = .number s m i) (h2 : (Ieee.double.read (Ieee.double.write (.number s m i))).isInfinity = false) : floatToFloatBits .f32 x .f64 = some (Ieee.double.write (.number s m i)) := by
  have hd : FloatKind.f32.decode x = .number s m i := h
  have h2' : (FloatKind.f64.decode (FloatKind.f64.encode (.number s m i))).isInfinity = false := h2
  unfold floatToFloatBits
  rw [if_neg (by decide), hd]
  dsimp only
  rw [h2']; rfl
theorem narrow_num {x : Nat} {s : Bool} {m : Nat} {i : Int} (h : Ieee.double.read x = .number s m i) (h2 : (Ieee.single.read (Ieee.single.write (.number s m i))).isInfinity = false) : floatToFloatBits .f64 x .f32 = some (Ieee.single.write (.number s m i)) := by
  have hd : FloatKind.f64.decode x = .number s m i := h
  have h2' : (FloatKind.f32.decode (FloatKind.f32.encode (.number s m i))).isInfinity = false := h2
  unfold floatToFloatBits
  rw [if_neg (by decide), hd]
  dsimp only
  rw [h2']; rfl
theorem dnearest_le (m : Nat) (p : Int) : Ieee.double.nearest false m p ≤ 9218868437227405312 := by
  have hw : ∀ r, Ieee.double.word false r = r := fun _ => rfl
  unfold Format.nearest
  by_cases h : m = 0
  · rw [if_pos h, hw]; exact Nat.zero_le _
  · rw [if_neg h, double_inf]
    dsimp only
    rw [hw]
    exact Nat.min_le_right _ _
theorem dnearest_true (m : Nat) (p : Int) : Ieee.double.nearest true m p = 9223372036854775808 + Ieee.double.nearest false m p := by
  have hw : ∀ r, Ieee.double.word false r = r := fun _ => rfl
  have hw2 : ∀ r, Ieee.double.word true r = 9223372036854775808 + r := fun r => by unfold Format.word; rw [double_sign]; rfl
  unfold Format.nearest
  by_cases h : m = 0
  · rw [if_pos h, if_pos h, hw, hw2]
  · rw [if_neg h, if_neg h]
    dsimp only
    rw [cut_neg true, hw, hw2]
theorem dread_true {r : Nat} {m : Nat} {p : Int} (hr : r ≤ 9218868437227405312) (h : Ieee.double.read r = .number false m p) : Ieee.double.read (9223372036854775808 + r) = .number true m p := by
  have e1 : (9223372036854775808 + r) % 9223372036854775808 = r := by omega
  have e2 : r % 9223372036854775808 = r := by omega
  have e3 : (9223372036854775808 + r) / 9223372036854775808 = 1 := by omega
  have e4 : r / 9223372036854775808 = 0 := by omega
  unfold Format.read at h ⊢
  rw [double_least, double_binade, double_inf, double_sign] at *
  dsimp only at h ⊢
  rw [e2, e4] at h
  rw [e1, e3]
  by_cases c1 : r < 4503599627370496
  · rw [if_pos c1] at h ⊢
    injection h with h1 h2 h3
    rw [h2, h3]; rfl
  · rw [if_neg c1] at h ⊢
    by_cases c2 : r < 9218868437227405312
    · rw [if_pos c2] at h ⊢
      injection h with h1 h2 h3
      rw [h2, h3]; rfl
    · rw [if_neg c2] at h
      by_cases c3 : r = 9218868437227405312
      · rw [if_pos c3] at h; cases h
      · rw [if_neg c3] at h; cases h
/-- The root of a word above zero. -/
def rootN (m : Nat) (i : Int) : Nat := match Ieee.double.sqrt (Ieee.double.nearest false m i) with
  | some b => Ieee.single.write (Ieee.double.read b)
  | none => 0
/-- The root of every word. -/
def sqV (x : Nat) : Nat := if nanW x then 2143289344 else if rg x = 0 then x else if sgn x then 2143289344 else if rg x = 2139095040 then 2139095040 else rootN (pm (rg x)) (pe (rg x))
theorem root_word (x : Nat) (h0 : 0 < rg x) (h1 : rg x < 2139095040) : ∃ b1 b2 m' p' M E, Ieee.double.nearest false (pm (rg x)) (pe (rg x)) = b1 ∧ Ieee.double.read b1 = .number false M E ∧ 0 < M ∧ Ieee.double.sqrt b1 = some b2 ∧ Ieee.double.read b2 = .number false m' p' ∧
    rootN (pm (rg x)) (pe (rg x)) = Ieee.single.nearest false m' p' ∧ 0 < m' ∧ -1074 ≤ p' ∧ Ieee.single.nearest false m' p' < 2139095040 ∧
    ∀ (k : Nat) (e : Int), k < 33554432 → -150 ≤ e → e ≤ 104 → icmp (sc (-5000) m' p') (sc (-5000) k e) = icmp (sc (-600) (pm (rg x)) (pe (rg x))) (sc (-600) (k * k) (2 * e)) := by
  have hm := pm_lt (rg x)
  have hm0 := pm_pos h0
  have he := pe_ge (rg x)
  have he2 := pe_le (rg x) h1
  obtain ⟨b2, m', p', M, E, r1, r2, r3, r4, r5, r6, r7⟩ := root_all (pm (rg x)) (pe (rg x)) hm0 hm he he2
  refine ⟨_, b2, m', p', M, E, rfl, r1, ?_, r2, r3, ?_, r4, r5, single_small m' p' r4 (by omega) r6, fun k e hk h2 h3 => ?_⟩
  · apply Nat.pos_of_ne_zero
    intro hM
    subst hM
    unfold Format.sqrt at r2
    rw [r1] at r2
    have e1 : (Datum.number false 0 E).root (Ieee.double.fractionBits + 2) = some (.number false 0 E) := rfl
    rw [e1] at r2
    have e2 : Ieee.double.nearest false 0 E = b2 := Option.some.inj r2
    have e3 : Ieee.double.nearest false 0 E = 0 := by unfold Format.nearest; rw [if_pos rfl]; rfl
    rw [← e2, e3] at r3
    have e4 : Ieee.double.read 0 = .number false 0 (-1074) := by decide
    rw [e4] at r3
    injection r3 with _ h4 _
    omega
  · unfold rootN
    rw [r2]
    show Ieee.single.write (Ieee.double.read b2) = _
    rw [r3]; rfl
  · rw [r7 k e hk h2 h3]
    exact icmp_base (by omega) (by omega) (by omega)
theorem kind_word {x : Nat} (hx : x < 4294967296) : x = wd (sgn x) (rg x) := by
  unfold wd sgn rg
  by_cases h2 : x / 2147483648 % 2 = 1
  · rw [if_pos (by simpa using h2)]; omega
  · rw [if_neg (by simpa using h2)]; omega
theorem psqrt_any (x : Nat) (hx : x < 4294967296) (w : World) : Calls Try.prog 39 #[.float .f32 x] w fun r w' => r = .returned (.float .f32 (sqV x)) ∧ Qt w w' := by
  have hk := kind_word hx
  unfold sqV
  by_cases h1 : nanW x = true
  · rw [if_pos h1]
    exact psqrt_nan x w h1
  · rw [if_neg h1]
    have hle : rg x ≤ 2139095040 := by
      rw [nanW_rg] at h1
      have := of_decide_eq_false (Bool.not_eq_true _ ▸ h1)
      omega
    by_cases h2 : rg x = 0
    · rw [if_pos h2]
      rw [h2] at hk
      cases hs : sgn x
      · rw [hs] at hk
        have hx0 : x = 0 := hk
        subst hx0
        exact psqrt_some 0 0 0 0 w (by kernel_rfl) (by kernel_rfl) (by kernel_rfl)
      · rw [hs] at hk
        have hx0 : x = 2147483648 := hk
        subst hx0
        exact psqrt_some 2147483648 9223372036854775808 9223372036854775808 2147483648 w (by kernel_rfl) (by kernel_rfl) (by kernel_rfl)
    · rw [if_neg h2]
      cases hs : sgn x
      · rw [if_neg (by decide)]
        by_cases h3 : rg x = 2139095040
        · rw [if_pos h3]
          rw [hs, h3] at hk
          have hx0 : x = 2139095040 := hk
          subst hx0
          exact psqrt_some 2139095040 9218868437227405312 9218868437227405312 2139095040 w (by kernel_rfl) (by kernel_rfl) (by kernel_rfl)
        · rw [if_neg h3]
          obtain ⟨b1, b2, m', p', M, E, e1, e2, e3, e4, e5, e6, e7, e8, e9, -⟩ := root_word x (by omega) (by omega)
          have hrd := read_num (x := x) (by omega)
          rw [hs] at hrd
          have hw1 : floatToFloatBits .f32 x .f64 = some b1 := by
            rw [widen_num hrd]
            · exact congrArg some e1
            · show (Ieee.double.read (Ieee.double.nearest false (pm (rg x)) (pe (rg x)))).isInfinity = false
              rw [e1, e2]; rfl
          have hw2 : floatToFloatBits .f64 b2 .f32 = some (Ieee.single.nearest false m' p') := by
            rw [narrow_num e5]
            · rfl
            · exact nearest_finite m' p' e9
          have h := psqrt_some x b1 b2 _ w hw1 e4 hw2
          have hc : cleanW (Ieee.single.nearest false m' p') = rootN (pm (rg x)) (pe (rg x)) := by
            rw [e6]
            exact cleanW_le (Nat.le_of_lt e9)
          rw [hc] at h
          exact h
      · rw [if_pos rfl]
        by_cases h3 : rg x = 2139095040
        · rw [hs, h3] at hk
          have hx0 : x = 4286578688 := hk
          subst hx0
          exact psqrt_none 4286578688 18442240474082181120 w (by kernel_rfl) (by kernel_rfl)
        · obtain ⟨b1, b2, m', p', M, E, e1, e2, e3, e4, e5, e6, e7, e8, e9, -⟩ := root_word x (by omega) (by omega)
          have hrd := read_num (x := x) (by omega)
          rw [hs] at hrd
          have hwr : Ieee.double.write (.number true (pm (rg x)) (pe (rg x))) = 9223372036854775808 + b1 := by rw [← e1]; exact dnearest_true _ _
          have hb1 : b1 ≤ 9218868437227405312 := by rw [← e1]; exact dnearest_le _ _
          have hr2 := dread_true hb1 e2
          have hw1 : floatToFloatBits .f32 x .f64 = some (9223372036854775808 + b1) := by
            rw [widen_num hrd]
            · exact congrArg some hwr
            · rw [hwr, hr2]; rfl
          refine psqrt_none x _ w hw1 ?_
          unfold Format.sqrt
          rw [hr2]
          unfold Datum.root
          dsimp only
          rw [if_neg (by omega), if_pos rfl]; rfl
end Go.Proofs.Ythadfopkacbnlaa.n03

