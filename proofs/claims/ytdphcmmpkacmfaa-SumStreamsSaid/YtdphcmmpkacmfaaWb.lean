/-
  Layer 5: what a matrix makes of a number, and Join.
-/
import Derived.Test.YtdphcmmpkacmfaaWa
namespace Go.Proofs.Ytdphcmmpkacmfaa
open Go.RowKit Go.K
attribute [local go_sem] xor_U64 and_U64 or_U64 wrap_U64 ofInt_add64 ofInt_mul64 ofInt_neg64 shr_U64_1 shr_U64_4 U64_ofInt U8_ofInt64 u64_signed u64_compl

/-- A row of 64 numbers as cells. -/
def matRow (m : Nat → BitVec 64) : Array Value := ((List.range 64).map fun j => Value.int .u64 (U64 (m j))).toArray
theorem matRow_size (m : Nat → BitVec 64) : (matRow m).size = 64 := by simp [matRow]
theorem matRow_get (m : Nat → BitVec 64) (j : Nat) (hj : j < 64) : (matRow m)[j]? = some (.int .u64 (U64 (m j))) := by
  simp [matRow, hj]
/-- What a row makes of the lowest n bits of r, taken from place i on. -/
def ofFrom (m : Nat → BitVec 64) (r : BitVec 64) : Nat → BitVec 64
  | 0 => 0#64
  | n + 1 => ofFrom m r n ^^^ (m n &&& -((r >>> n) &&& 1#64))
def ofM (m : Nat → BitVec 64) (r : BitVec 64) : BitVec 64 := ofFrom m r 64
theorem ofFrom_stop (m : Nat → BitVec 64) (r : BitVec 64) (n k : Nat) (h : r >>> n = 0#64) : ofFrom m r (n + k) = ofFrom m r n := by
  induction k with
  | zero => rfl
  | succ k ih =>
    rw [← Nat.add_assoc, ofFrom, ih]
    have : r >>> (n + k) = 0#64 := by rw [BitVec.shiftRight_add, h]; simp
    simp [this]
theorem shr64 (r : BitVec 64) : r >>> 64 = 0#64 := by
  apply BitVec.eq_of_toNat_eq
  rw [BitVec.toNat_ushiftRight, Nat.shiftRight_eq_div_pow]
  have := r.isLt
  simp; omega
theorem ofM_stop (m : Nat → BitVec 64) (r : BitVec 64) (k : Nat) (hk : k ≤ 64) (h : r >>> k = 0#64) : ofM m r = ofFrom m r k := by
  have := ofFrom_stop m r k (64 - k) h
  rwa [show k + (64 - k) = 64 by omega] at this
theorem of_any (m : Nat → BitVec 64) (g : Nat) (r : BitVec 64) (w : World) (hm : ∀ i, i < 64 → w.cell? ⟨g, i, none⟩ = some (.int .u64 (U64 (m i)))) :
    Calls Try.prog 36 #[.pointer (some ⟨g, 0, none⟩), .int .u64 (U64 r)] w fun e w' => e = .returned (.int .u64 (U64 (ofM m r))) ∧ w = w' := by
  have HM := Lib.hid hm
  clear hm
  go_enter Try.func36, Try.ntmps36
  go_wp2
  go_loop [1, 5, 6] (fun q o i => ∃ k : Nat, k ≤ 64 ∧ i = .int .i64 k ∧ q = .int .u64 (U64 (r >>> k)) ∧ o = .int .u64 (U64 (ofFrom m r k))) (fun _ _ i => 64 - (intOf i).toNat)
  case atStart => exact ⟨0, by omega, rfl, by simp, rfl⟩
  case round =>
    obtain ⟨k, hk, rfl, rfl, rfl⟩ := hrel
    by_cases hz : r >>> k = 0#64
    · have hb : (U64 (r >>> k) != 0) = false := by rw [hz]; rfl
      have HF := Lib.hid (ofM_stop m r k hk hz)
      clear hz
      go_wp2
      go_ret
      exact ⟨by rw [HF.out]; rfl, rfl⟩
    · have hb : (U64 (r >>> k) != 0) = true := by
        rw [bne_iff_ne]; intro h; exact hz (U64_inj h)
      have hlt : k < 64 := by
        rcases Nat.lt_or_ge k 64 with h | h
        · exact h
        · exact absurd (by rw [show k = 64 by omega]; exact shr64 r) hz
      have hc := HM.out k hlt
      clear hz
      go_wp2
      go_round
      case rel => exact ⟨k + 1, by omega, by go_num, by rw [BitVec.shiftRight_add], rfl⟩
      case measure => simp [intOf]; omega
theorem of_row (m : Nat → BitVec 64) (g : Nat) (t : TypeId) (r : BitVec 64) (w : World) (hm : w.heap[g]? = some (.cells (matRow m) t)) :
    Calls Try.prog 36 #[.pointer (some ⟨g, 0, none⟩), .int .u64 (U64 r)] w fun e w' => e = .returned (.int .u64 (U64 (ofM m r))) ∧ w = w' :=
  of_any m g r w fun i hi => by rw [cell_of_row w g i _ _ _ hm, matRow_get m i hi]
theorem matRow_set (m : Nat → BitVec 64) (k : Nat) (x : BitVec 64) : (matRow m).setIfInBounds k (.int .u64 (U64 x)) = matRow (fun i => if i = k then x else m i) := by
  apply Array.ext_getElem?
  intro i
  rw [Array.getElem?_setIfInBounds]
  by_cases hi : i < 64
  · rw [matRow_get _ _ hi, matRow_get _ _ hi, matRow_size]
    by_cases e : k = i
    · subst e; simp [hi]
    · have : ¬ i = k := fun h => e h.symm
      simp [e, this]
  · by_cases e : k = i
    · subst e; simp [matRow, hi]
    · simp [e, matRow, hi]
theorem matRow_one (m : Nat → BitVec 64) : (matRow m).all (·.oneCell') = true := by
  rw [Array.all_eq_true]
  intro i hi
  have := matRow_get m i (by simpa [matRow_size] using hi)
  rw [Array.getElem?_eq_getElem hi] at this
  injection this with this
  rw [this]; rfl

/-- What the zero byte makes of bit i alone. -/
def bitB (i : Nat) : BitVec 64 := BitVec.ofInt 64 (2 ^ i)
def M0 (i : Nat) : BitVec 64 := takeC (bitB i) 0#8
def sqM (m : Nat → BitVec 64) (i : Nat) : BitVec 64 := ofM m (m i)
def joinRest (a : BitVec 64) (m : Nat → BitVec 64) (n : Nat) : BitVec 64 :=
  if n = 0 then a else joinRest (if n % 2 = 1 then ofM m a else a) (sqM m) (n / 2)
termination_by n
decreasing_by omega
def upTo (k : Nat) (m : Nat → BitVec 64) (i : Nat) : BitVec 64 := if i < k then m i else 0#64
theorem upTo_set (k : Nat) (m : Nat → BitVec 64) : (fun i => if i = k then m k else upTo k m i) = upTo (k + 1) m := by
  funext i
  unfold upTo
  by_cases e : i = k
  · subst e; simp
  · have : (i < k + 1) = (i < k) := by apply propext; omega
    simp [e, this]
theorem matRow_upTo (m : Nat → BitVec 64) : matRow (upTo 64 m) = matRow m := by
  apply Array.ext_getElem?
  intro i
  by_cases hi : i < 64
  · rw [matRow_get _ _ hi, matRow_get _ _ hi]; simp [upTo, hi]
  · simp [matRow, hi]
theorem and_one_i64 (n : Nat) (h : n < 9223372036854775808) : bits .and .i64 (n : Int) 1 = ((n % 2 : Nat) : Int) := by
  show IntKind.i64.wrap ((BitVec.ofInt 64 (n : Int) &&& BitVec.ofInt 64 1).toNat : Int) = _
  rw [BitVec.ofInt_natCast, BitVec.toNat_and, BitVec.toNat_ofNat, Nat.mod_eq_of_lt (by omega)]
  rw [show (BitVec.ofInt 64 1).toNat = 2 ^ 1 - 1 from rfl, Nat.and_two_pow_sub_one_eq_mod]
  rw [IntKind.wrap_i64]; omega

end Go.Proofs.Ytdphcmmpkacmfaa
