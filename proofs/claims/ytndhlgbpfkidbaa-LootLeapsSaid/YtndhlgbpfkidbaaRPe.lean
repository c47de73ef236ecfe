/-
  Reals: from chapter 3's Pe, what is needed here.
-/
import Derived.Test.YtndhlgbpfkidbaaRPc
namespace Go.Proofs.Ytndhlgbpfkidbaa.n03
open Go.RowKit Go.K Go.R
set_option linter.unusedVariables false
set_option linter.unusedSimpArgs false
/-- The limbs of a sum as they lie. -/
def Lm (W : World) (g : Nat) (L : List Int) : Prop := L.length = 11 ∧ W.heap[g]? = some (.cells (L.map (fun n => Value.int .i64 n)).toArray 108)
theorem Lm.cell {W : World} {g : Nat} {L : List Int} (h : Lm W g L) (k : Nat) (hk : k < 11) : W.cell? ⟨g, k, none⟩ = some (.int .i64 (L[k]'(by rw [h.1]; exact hk))) := by
  obtain ⟨h1, h2⟩ := h
  rw [cell_of_row _ _ _ _ _ _ h2]
  simp [List.getElem?_eq_getElem (show k < L.length by omega)]
theorem Lm.kept {W W' : World} {g : Nat} {L : List Int} (h : Lm W g L) (hb : Below W.heap.size W W') : Lm W' g L := ⟨h.1, row_kept h.2 hb⟩
/-- A bit of limbs that are not below zero. -/
def bitV (L : List Int) (i : Nat) : Nat := ((L.getD (i / 32) 0).toNat / 2 ^ (i % 32)) % 2
theorem and_u64_1 (x : Nat) : bits .and .u64 (x : Int) 1 = ((x % 2 : Nat) : Int) := by
  show IntKind.u64.wrap (((BitVec.ofInt 64 (x : Int)) &&& (BitVec.ofInt 64 1)).toNat : Int) = _
  have h1 : (BitVec.ofInt 64 (x : Int) &&& BitVec.ofInt 64 1).toNat = x % 2 := by
    rw [BitVec.toNat_and, BitVec.ofInt_natCast, BitVec.toNat_ofNat]
    have : (BitVec.ofInt 64 1).toNat = 2 ^ 1 - 1 := by decide
    rw [this, Nat.and_two_pow_sub_one_eq_mod]
    omega
  rw [h1, IntKind.wrap_u64]; omega
set_option maxRecDepth 100000 in
theorem bit_any (g i : Nat) (L : List Int) (w : World) (hi : i < 352) (hL : Lm w g L) (hp : 0 ≤ L.getD (i / 32) 0) (hp2 : L.getD (i / 32) 0 < 9223372036854775808) :
    Calls Try.prog 91 #[.pointer (some ⟨g, 0, none⟩), .int .i64 (i : Int)] w fun r w' => r = .returned (.int .u64 ((bitV L i : Nat) : Int)) ∧ w = w' := by
  have hk : i / 32 < 11 := by omega
  have z := hL.cell (i / 32) hk
  have hq := tquo_nat i 32
  have hr := trem_nat i 32
  simp only [Int.cast_ofNat_Int] at hq hr
  have hg : L.getD (i / 32) 0 = L[i / 32]'(by rw [hL.1]; exact hk) := by
    rw [List.getD_eq_getElem?_getD, List.getElem?_eq_getElem (by rw [hL.1]; exact hk)]; rfl
  obtain ⟨n, hn⟩ : ∃ n : Nat, L.getD (i / 32) 0 = (n : Int) := ⟨_, (Int.toNat_of_nonneg hp).symm⟩
  rw [← hg, hn] at z
  have HV := Lib.hid (show bitV L i = n / 2 ^ (i % 32) % 2 by unfold bitV; rw [hn]; rfl)
  have hr32 : i % 32 < 32 := Nat.mod_lt _ (by decide)
  rw [hn] at hp2
  have hsh : (n : Int) / 2 ^ (i % 32) = ((n / 2 ^ (i % 32) : Nat) : Int) := by simp
  have hle : n / 2 ^ (i % 32) ≤ n := Nat.div_le_self _ _
  have hw : IntKind.u64.wrap ((n / 2 ^ (i % 32) : Nat) : Int) = ((n / 2 ^ (i % 32) : Nat) : Int) := by
    generalize n / 2 ^ (i % 32) = m at *
    rw [IntKind.wrap_u64]; omega
  have ha := and_u64_1 (n / 2 ^ (i % 32))
  clear hg hn hL hp
  generalize n / 2 ^ (i % 32) % 2 = b at *
  generalize n / 2 ^ (i % 32) = m at *
  generalize i / 32 = k at *
  generalize i % 32 = s at *
  have ik : (k : Int) < 11 := by omega
  go_enter Try.func91, Try.ntmps91
  go_wp2
  go_ret
  exact ⟨by rw [HV.out]; rfl, rfl⟩
end Go.Proofs.Ytndhlgbpfkidbaa.n03

