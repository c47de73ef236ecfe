/-
  Layer 5: eight bytes: what Forge answers as a list, and == on [8]byte.
-/
import Derived.Test.YtdphcmmpkacmfaaLc
import Derived.Test.YtdphcmmpkacmfaaPb
import Derived.Stop.BytesEq
namespace Go.Proofs.Ytdphcmmpkacmfaa
open Go.RowKit Go.K
set_option linter.unusedVariables false

theorem byteAt_eq (x : BitVec 64) (i : Nat) : byteAt x i = (x >>> (8 * i)).setWidth 8 := by
  unfold byteAt
  rw [shr_pow]
  unfold U64
  rw [BitVec.ofInt_natCast]
  apply BitVec.eq_of_toNat_eq; simp
theorem bytesN_get : ∀ (n : Nat) (x : BitVec 64) (i : Nat), i < n → (bytesN n x)[i]? = some ((x >>> (8 * i)).setWidth 8)
  | 0, _, _, h => by omega
  | n + 1, x, 0, _ => by simp [bytesN]
  | n + 1, x, i + 1, h => by
    rw [bytesN, List.getElem?_cons_succ, bytesN_get n _ i (by omega), ← BitVec.shiftRight_add, Nat.mul_succ, Nat.add_comm]
theorem outRow_eq (x : BitVec 64) : outRow x 8 = (vBs (bytesN 8 x)).toArray := by
  apply Array.ext_getElem?
  intro i
  by_cases hi : i < 8
  · rw [outRow_get _ _ _ hi, if_pos hi, List.getElem?_toArray, vBs, List.getElem?_map, bytesN_get 8 x i hi, byteAt_eq]; rfl
  · have h1 : (outRow x 8)[i]? = none := Array.getElem?_eq_none (by rw [outRow_size]; omega)
    have h2 : (vBs (bytesN 8 x)).toArray[i]? = none := Array.getElem?_eq_none (by rw [List.size_toArray, vBs_length, bytesN_length]; omega)
    rw [h1, h2]
theorem vB_cell (c : BitVec 8) : vB c = Extern.Stop.cell (UInt8.ofBitVec c) := rfl
theorem vBs_cells (l : List (BitVec 8)) : vBs l = (l.map UInt8.ofBitVec).map Extern.Stop.cell := by
  rw [vBs, List.map_map]; rfl
theorem ofBitVec_beq (l m : List (BitVec 8)) : (l.map UInt8.ofBitVec == m.map UInt8.ofBitVec) = decide (l = m) := by
  rw [Bool.eq_iff_iff]
  simp only [beq_iff_eq, decide_eq_true_eq]
  constructor
  · intro h
    have := congrArg (List.map UInt8.toBitVec) h
    simpa [List.map_map, Function.comp_def] using this
  · intro h; rw [h]
theorem run_eq8 (l m : List (BitVec 8)) (hl : l.length = 8) (hm : m.length = 8) (w : World) :
    (Op.equalIn 10000 37 (.agg (vBs l).toArray) (.agg (vBs m).toArray)).run Try.prog w = .ok (decide (l = m)) w := by
  rw [vBs_cells, vBs_cells, run_equalIn_bytes (P := Try.prog) w 9998 37 5 8 Try.underlying37 Try.underlying5 (fun _ => by kernel_rfl) _ _ (by simpa using hl) (by simpa using hm), ofBitVec_beq]
theorem forge8 (r : Int) (x : BitVec 64) (hr : r = U64 x) (a : Option Addr) (n cap : Nat) (l : List (BitVec 8)) (w : World) (hn : l.length = n) (hl : n ≤ maxLen) (hs : Sl w a (vBs l)) :
    Calls Try.prog 21 #[.slice a n cap, .int .u64 r] w fun e w' => e = .returned (.agg (vBs (bytesN 8 (forgeX l x))).toArray) ∧ Below w.heap.size w w' := by
  have := forge_at r x hr a n cap l w hn hl hs
  rwa [outRow_eq] at this
/-- WHAT FORGE IS FOR: with the eight bytes behind b the sum is want. -/
theorem forge_sums (b : List (BitVec 8)) (want : BitVec 64) : updB 0#64 (b ++ bytesN 8 (forgeX b want)) = want := by
  rw [updB_append]
  unfold updB forgeX
  rw [takeL_eight]
  have h : ~~~ (~~~ takeL (~~~ 0#64) b) = takeL 18446744073709551615#64 b := by simp
  rw [h, BitVec.xor_comm (backN _ _), ← BitVec.xor_assoc, BitVec.xor_self, BitVec.zero_xor, iter_back]
  simp
theorem bytesN_inj {x y : BitVec 64} (h : bytesN 8 x = bytesN 8 y) : x = y := by
  have h1 := takeL_eight 0#64 x
  rw [h, takeL_eight] at h1
  simpa using (iterB_inj 64 h1).symm
/-- Every row of eight bytes is that of a number. -/
def numB : List (BitVec 8) → BitVec 64
  | [] => 0#64
  | c :: r => c.setWidth 64 ^^^ (numB r) <<< 8
theorem bytesN_num : ∀ l : List (BitVec 8), l.length ≤ 8 → bytesN l.length (numB l) = l
  | [], _ => rfl
  | c :: r, h => by
    rw [List.length_cons, bytesN, numB]
    have h1 : (c.setWidth 64 ^^^ numB r <<< 8).setWidth 8 = c := by
      apply BitVec.eq_of_getLsbD_eq; intro i hi
      rw [BitVec.getLsbD_setWidth, BitVec.getLsbD_xor, BitVec.getLsbD_setWidth, BitVec.getLsbD_shiftLeft]
      simp [hi, show i < 64 by omega]
    have hr : numB r >>> (8 * r.length) = 0#64 := by
      clear h1
      simp only [List.length_cons] at h
      have key : ∀ s : List (BitVec 8), ∀ i, 8 * s.length ≤ i → (numB s).getLsbD i = false := by
        intro s
        induction s with
        | nil => intro i _; simp [numB]
        | cons c s ih =>
          intro i hi
          rw [List.length_cons] at hi
          rw [numB, BitVec.getLsbD_xor, BitVec.getLsbD_setWidth, BitVec.getLsbD_shiftLeft, ih (i - 8) (by omega), BitVec.getLsbD_of_ge c i (by omega)]
          simp
      apply BitVec.eq_of_getLsbD_eq; intro i hi
      rw [BitVec.getLsbD_ushiftRight, key r _ (by omega)]; simp
    have h2 : (c.setWidth 64 ^^^ numB r <<< 8) >>> 8 = numB r := by
      apply BitVec.eq_of_getLsbD_eq; intro i hi
      rw [BitVec.getLsbD_ushiftRight, BitVec.getLsbD_xor, BitVec.getLsbD_setWidth, BitVec.getLsbD_shiftLeft, BitVec.getLsbD_of_ge c (8 + i) (by omega)]
      by_cases h8 : 8 + i < 64
      · simp [h8]
      · have hz : (numB r).getLsbD i = false := by
          have := congrArg (fun z => z.getLsbD (i - 8 * r.length)) hr
          simp only [BitVec.getLsbD_ushiftRight] at this
          simp only [List.length_cons] at h
          rw [show 8 * r.length + (i - 8 * r.length) = i by omega] at this
          simpa using this
        simp [h8, hz]
    rw [h1, h2, bytesN_num r (by simp only [List.length_cons] at h; omega)]
end Go.Proofs.Ytdphcmmpkacmfaa
