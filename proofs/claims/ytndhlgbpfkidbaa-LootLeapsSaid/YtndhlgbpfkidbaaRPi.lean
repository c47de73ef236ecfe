/-
  Reals: from chapter 3's Pi, what is needed here.
-/
import Derived.Test.YtndhlgbpfkidbaaRPh
namespace Go.Proofs.Ytndhlgbpfkidbaa.n03
open Go.RowKit Go.K Go.R
set_option linter.unusedVariables false
set_option linter.unusedSimpArgs false
theorem sadd_any (g x : Nat) (L : List Int) (w : World) (hx : x < 4294967296) (hf : rg x < 2139095040) (hL : Lm w g L) (hb : ∀ j, -1152921504606846976 ≤ L.getD j 0 ∧ L.getD j 0 ≤ 1152921504606846976) :
    Calls Try.prog 61 #[.pointer (some ⟨g, 0, none⟩), .float .f32 x] w fun e w' => e = .returned (.tuple #[]) ∧ Lm w' g (addL L x) ∧ Only (fun n => n = g) w w' := by
  have hv := vW_lt x
  have hlen := hL.1
  have hs : shW x < 255 := by unfold shW; have := pe_le _ hf; omega
  have hk := kind_word hx
  have e1 : addL L x = (L.set (shW x / 32) (L.getD (shW x / 32) 0 + loW x)).set (shW x / 32 + 1) (L.getD (shW x / 32 + 1) 0 + hiW x) := by
    unfold addL
    rw [getD_set _ _ _ _ (by omega), if_neg (by omega)]
  rw [e1]
  have b1 := hb (shW x / 32)
  have b2 := hb (shW x / 32 + 1)
  have c1 := trem_nat (shW x) 32
  have c2 := tquo_nat (shW x) 32
  simp only [Int.cast_ofNat_Int] at c1 c2
  have c3 : IntKind.u64.wrap ((pm (rg x) : Int) * 2 ^ (shW x % 32)) = (vW x : Int) := shl_wrap _ _ (by have h := hv; unfold vW at h; omega)
  have c4 := and_u64_32 (vW x)
  have c5 : IntKind.i64.wrap ((vW x % 4294967296 : Nat) : Int) = ((vW x % 4294967296 : Nat) : Int) := by rw [IntKind.wrap_i64]; omega
  have c6 : (vW x : Int) / 4294967296 = ((vW x / 4294967296 : Nat) : Int) := by omega
  have c7 : IntKind.i64.wrap ((vW x / 4294967296 : Nat) : Int) = ((vW x / 4294967296 : Nat) : Int) := by rw [IntKind.wrap_i64]; omega
  have d1 : (x : Int) / 2147483648 = ((x / 2147483648 : Nat) : Int) := by omega
  have d3 : IntKind.i64.wrap (-((vW x % 4294967296 : Nat) : Int)) = -((vW x % 4294967296 : Nat) : Int) := by rw [IntKind.wrap_i64]; omega
  have d4 : IntKind.i64.wrap (-((vW x / 4294967296 : Nat) : Int)) = -((vW x / 4294967296 : Nat) : Int) := by rw [IntKind.wrap_i64]; omega
  have a1 := and_23 x
  have a2 : (x : Int) / 8388608 = ((x / 8388608 : Nat) : Int) := by omega
  have a3 := and_8 (x / 8388608)
  have a4 : IntKind.u64.wrap ((x % 8388608 : Nat) : Int) = ((x % 8388608 : Nat) : Int) := by rw [IntKind.wrap_u64]; omega
  have a5 : IntKind.i64.wrap ((x / 8388608 % 256 : Nat) : Int) = ((x / 8388608 % 256 : Nat) : Int) := by rw [IntKind.wrap_i64]; omega
  have hw1 : IntKind.i64.wrap (((shW x / 32 : Nat) : Int) + 1) = ((shW x / 32 + 1 : Nat) : Int) := by rw [IntKind.wrap_i64]; omega
  by_cases hp : 0 < x / 8388608 % 256
  · have g1 : decide (((x / 8388608 % 256 : Nat) : Int) > 0) = true := decide_eq_true (by omega)
    have hpm : pm (rg x) = x % 8388608 + 8388608 := by unfold pm rg; rw [if_neg (by omega)]; omega
    have g3 : bits .or .u64 ((x % 8388608 : Nat) : Int) 8388608 = ((pm (rg x) : Nat) : Int) := by rw [hpm]; exact or_23 _ (by omega)
    have g4 : IntKind.i64.wrap (((x / 8388608 % 256 : Nat) : Int) - 1) = ((shW x : Nat) : Int) := by
      unfold shW pe rg; rw [if_neg (by omega), IntKind.wrap_i64]; omega
    cases hsg : sgn x
    · have hlo : loW x = ((vW x % 4294967296 : Nat) : Int) := by unfold loW; rw [hsg]; rfl
      have hhi : hiW x = ((vW x / 4294967296 : Nat) : Int) := by unfold hiW; rw [hsg]; rfl
      rw [hlo, hhi]
      rw [hsg] at hk
      have d2 : (((x / 2147483648 : Nat) : Int) == 1) = false := by
        rw [beq_eq_false_iff_ne]
        have hk2 : x = rg x := hk
        omega
      exact sadd_pu g x _ _ _ _ _ _ _ _ _ _ _ _ _ _ L w hL a1 a2 a3 a4 a5 g1 (decide_eq_true hp) g3 g4 c1 c2 c3 c4 c5 c6 c7 d1 d2 d3 d4 (by omega) (by omega) rfl hw1 (by rw [IntKind.wrap_i64]; omega) (by rw [IntKind.wrap_i64]; omega)
    · have hlo : loW x = -((vW x % 4294967296 : Nat) : Int) := by unfold loW; rw [hsg]; rfl
      have hhi : hiW x = -((vW x / 4294967296 : Nat) : Int) := by unfold hiW; rw [hsg]; rfl
      rw [hlo, hhi]
      rw [hsg] at hk
      have d2 : (((x / 2147483648 : Nat) : Int) == 1) = true := by
        rw [beq_iff_eq]
        have hk2 : x = 2147483648 + rg x := hk
        omega
      exact sadd_pn g x _ _ _ _ _ _ _ _ _ _ _ _ _ _ L w hL a1 a2 a3 a4 a5 g1 (decide_eq_true hp) g3 g4 c1 c2 c3 c4 c5 c6 c7 d1 d2 d3 d4 (by omega) (by omega) rfl hw1 (by rw [IntKind.wrap_i64]; omega) (by rw [IntKind.wrap_i64]; omega)
  · have g1 : decide (((x / 8388608 % 256 : Nat) : Int) > 0) = false := decide_eq_false (by omega)
    have hpm : x % 8388608 = pm (rg x) := by unfold pm rg; rw [if_pos (by omega)]; omega
    have hsh : x / 8388608 % 256 = shW x := by unfold shW pe rg; rw [if_pos (by omega)]; omega
    cases hsg : sgn x
    · have hlo : loW x = ((vW x % 4294967296 : Nat) : Int) := by unfold loW; rw [hsg]; rfl
      have hhi : hiW x = ((vW x / 4294967296 : Nat) : Int) := by unfold hiW; rw [hsg]; rfl
      rw [hlo, hhi]
      rw [hsg] at hk
      have d2 : (((x / 2147483648 : Nat) : Int) == 1) = false := by
        rw [beq_eq_false_iff_ne]
        have hk2 : x = rg x := hk
        omega
      exact sadd_su g x _ _ _ _ _ _ _ _ _ _ _ _ _ _ L w hL a1 a2 a3 a4 a5 g1 (decide_eq_false hp) hpm hsh c1 c2 c3 c4 c5 c6 c7 d1 d2 d3 d4 (by omega) (by omega) rfl hw1 (by rw [IntKind.wrap_i64]; omega) (by rw [IntKind.wrap_i64]; omega)
    · have hlo : loW x = -((vW x % 4294967296 : Nat) : Int) := by unfold loW; rw [hsg]; rfl
      have hhi : hiW x = -((vW x / 4294967296 : Nat) : Int) := by unfold hiW; rw [hsg]; rfl
      rw [hlo, hhi]
      rw [hsg] at hk
      have d2 : (((x / 2147483648 : Nat) : Int) == 1) = true := by
        rw [beq_iff_eq]
        have hk2 : x = 2147483648 + rg x := hk
        omega
      exact sadd_sn g x _ _ _ _ _ _ _ _ _ _ _ _ _ _ L w hL a1 a2 a3 a4 a5 g1 (decide_eq_false hp) hpm hsh c1 c2 c3 c4 c5 c6 c7 d1 d2 d3 d4 (by omega) (by omega) rfl hw1 (by rw [IntKind.wrap_i64]; omega) (by rw [IntKind.wrap_i64]; omega)
end Go.Proofs.Ytndhlgbpfkidbaa.n03

