/-
  Layer 5: turned, walked: the bytes with the bits of a mask turned in the eight bytes from a place on; and what of it shows in the sum.
-/
import Derived.Test.YtdphcmmpkacmfaaLd
import Derived.Test.YtdphcmmpkacmfaaReg
namespace Go.Proofs.Ytdphcmmpkacmfaa
open Go.RowKit Go.K
set_option linter.unusedVariables false
set_option linter.unusedSimpArgs false

/-- Byte j of the mask. -/
def mB (mask : BitVec 64) (j : Nat) : BitVec 8 := (mask >>> (8 * j)).setWidth 8
def turnL (l : List (BitVec 8)) (p : Nat) (mask : BitVec 64) : Nat → List (BitVec 8)
  | 0 => l
  | k + 1 => (turnL l p mask k).set (p + k) (((turnL l p mask k)[p + k]?.getD 0#8) ^^^ mB mask k)
def anyL (mask : BitVec 64) : Nat → Bool
  | 0 => false
  | k + 1 => anyL mask k || (mB mask k != 0#8)
theorem turnL_length (l : List (BitVec 8)) (p : Nat) (mask : BitVec 64) (k : Nat) : (turnL l p mask k).length = l.length := by
  induction k with
  | zero => rfl
  | succ k ih => rw [turnL, List.length_set, ih]
/-- What is turned, as a text of its own. -/
def diffL (n p : Nat) (mask : BitVec 64) : Nat → List (BitVec 8)
  | 0 => List.replicate n 0#8
  | k + 1 => (diffL n p mask k).set (p + k) (mB mask k)
theorem diffL_length (n p : Nat) (mask : BitVec 64) (k : Nat) : (diffL n p mask k).length = n := by
  induction k with
  | zero => simp [diffL]
  | succ k ih => rw [diffL, List.length_set, ih]
theorem diffL_get (n p : Nat) (mask : BitVec 64) : ∀ k i, i < n → (diffL n p mask k)[i]? = some (if p ≤ i ∧ i < p + k then mB mask (i - p) else 0#8) := by
  intro k
  induction k with
  | zero => intro i hi; simp [diffL, hi]; omega
  | succ k ih =>
    intro i hi
    rw [diffL, List.getElem?_set]
    by_cases e : p + k = i
    · subst e
      rw [if_pos rfl, diffL_length, if_pos hi, if_pos (by omega)]
      congr 2; omega
    · rw [if_neg e, ih i hi]
      by_cases h : p ≤ i ∧ i < p + k
      · rw [if_pos h, if_pos (by omega)]
      · rw [if_neg h, if_neg (by omega)]
theorem turnL_diff (l : List (BitVec 8)) (p : Nat) (mask : BitVec 64) : ∀ k, turnL l p mask k = l.zipWith (· ^^^ ·) (diffL l.length p mask k) := by
  intro k
  induction k with
  | zero =>
    rw [turnL, diffL]
    apply List.ext_getElem?
    intro i
    rw [List.getElem?_zipWith]
    by_cases hi : i < l.length
    · simp [hi]
    · simp [hi, List.getElem?_eq_none (Nat.le_of_not_lt hi)]
  | succ k ih =>
    apply List.ext_getElem?
    intro i
    rw [turnL, List.getElem?_set, turnL_length, List.getElem?_zipWith]
    by_cases hi : i < l.length
    · rw [diffL_get _ _ _ _ _ hi]
      by_cases e : p + k = i
      · subst e
        rw [if_pos rfl, if_pos hi, ih, List.getElem?_zipWith, diffL_get _ _ _ _ _ hi, if_neg (by omega), if_pos (by omega)]
        simp [hi, show p + k - p = k by omega]
      · rw [if_neg e, ih, List.getElem?_zipWith, diffL_get _ _ _ _ _ hi]
        by_cases h : p ≤ i ∧ i < p + k
        · rw [if_pos h, if_pos (by omega)]
        · rw [if_neg h, if_neg (by omega)]
    · by_cases e : p + k = i
      · subst e; simp [hi, List.getElem?_eq_none (Nat.le_of_not_lt hi)]
      · rw [if_neg e, ih, List.getElem?_zipWith]
        simp [List.getElem?_eq_none (Nat.le_of_not_lt hi)]
theorem takeL_zip : ∀ (l d : List (BitVec 8)) (r s : BitVec 64), l.length = d.length → takeL (r ^^^ s) (l.zipWith (· ^^^ ·) d) = takeL r l ^^^ takeL s d
  | [], [], _, _, _ => rfl
  | a :: l, b :: d, r, s, h => by
    rw [List.zipWith_cons_cons, takeL_cons, takeL_cons, takeL_cons]
    have hc : takeC (r ^^^ s) (a ^^^ b) = takeC r a ^^^ takeC s b := by
      rw [takeC_eq, takeC_eq, takeC_eq, ← iterB_xor]
      congr 1
      rw [BitVec.setWidth_xor]
      ac_rfl
    rw [hc]
    exact takeL_zip l d _ _ (by simpa using h)
  | [], _ :: _, _, _, h => by simp at h
  | _ :: _, [], _, _, h => by simp at h
/-- What turns in the sum is what the turned bytes alone make of nothing: whatever the text. -/
theorem sum_turn (l : List (BitVec 8)) (p : Nat) (mask : BitVec 64) (k : Nat) : updB 0#64 l ^^^ updB 0#64 (turnL l p mask k) = takeL 0#64 (diffL l.length p mask k) := by
  rw [turnL_diff]
  unfold updB
  have := takeL_zip l (diffL l.length p mask k) (~~~ 0#64) 0#64 (diffL_length _ _ _ _).symm
  rw [BitVec.xor_zero] at this
  rw [this]
  generalize takeL (~~~ 0#64) l = y
  generalize takeL 0#64 (diffL l.length p mask k) = z
  apply BitVec.eq_of_getLsbD_eq; intro i hi
  simp only [BitVec.getLsbD_xor, BitVec.getLsbD_not]
  cases y.getLsbD i <;> cases z.getLsbD i <;> simp [hi]
theorem takeL_zeros (n : Nat) (r : BitVec 64) : takeL r (List.replicate n 0#8) = iterB (8 * n) r := by
  induction n generalizing r with
  | zero => rfl
  | succ n ih => rw [List.replicate_succ, takeL_cons, ih, takeC_zero, ← iterB_add, Nat.mul_succ]
theorem iterB_zero (n : Nat) : iterB n 0#64 = 0#64 := by
  induction n with
  | zero => rfl
  | succ n ih => rw [iterB, ih]; decide
theorem diff_split (n p : Nat) (mask : BitVec 64) (k : Nat) (h : p + k ≤ n) : diffL n p mask k = List.replicate p 0#8 ++ (List.range k).map (mB mask) ++ List.replicate (n - (p + k)) 0#8 := by
  apply List.ext_getElem?
  intro i
  by_cases hi : i < n
  · rw [diffL_get _ _ _ _ _ hi]
    by_cases h1 : i < p
    · rw [if_neg (by omega), List.append_assoc, List.getElem?_append_left (by simpa using h1)]
      simp [h1]
    · by_cases h2 : i < p + k
      · rw [if_pos (by omega), List.append_assoc, List.getElem?_append_right (by simp; omega), List.getElem?_append_left (by simp; omega)]
        simp [show i - p < k by omega]
      · rw [if_neg (by omega), List.getElem?_append_right (by simp; omega), List.getElem?_replicate, if_pos (by simp; omega)]
  · rw [List.getElem?_eq_none (by rw [diffL_length]; omega), List.getElem?_eq_none (by simp; omega)]
theorem range_bytesN (mask : BitVec 64) (k : Nat) (hk : k ≤ 8) : (List.range k).map (mB mask) = bytesN k (lowN (8 * k) mask) := by
  apply List.ext_getElem?
  intro i
  by_cases hi : i < k
  · rw [bytesN_get _ _ _ hi]
    simp only [List.getElem?_map, List.getElem?_range hi, Option.map_some]
    congr 1
    unfold mB
    apply BitVec.eq_of_getLsbD_eq; intro j hj
    rw [BitVec.getLsbD_setWidth, BitVec.getLsbD_setWidth, BitVec.getLsbD_ushiftRight, BitVec.getLsbD_ushiftRight, lowN_get _ _ _ (by omega)]
    simp [show 8 * i + j < 8 * k by omega]
  · rw [List.getElem?_eq_none (by simp; omega), List.getElem?_eq_none (by rw [bytesN_length]; omega)]
theorem anyL_eq (mask : BitVec 64) (k : Nat) (hk : k ≤ 8) : anyL mask k = decide (lowN (8 * k) mask ≠ 0#64) := by
  have h : anyL mask k = false ↔ ∀ j, j < k → mB mask j = 0#8 := by
    clear hk
    induction k with
    | zero => simp [anyL]
    | succ k ih =>
      rw [anyL, Bool.or_eq_false_iff, ih, bne_eq_false_iff_eq]
      constructor
      · rintro ⟨h1, h2⟩ j hj
        by_cases e : j = k
        · subst e; exact h2
        · exact h1 j (by omega)
      · intro h1; exact ⟨fun j hj => h1 j (by omega), h1 k (by omega)⟩
  have h' : anyL mask k = false ↔ lowN (8 * k) mask = 0#64 := by
   rw [h]
   constructor
   · intro h1
     apply BitVec.eq_of_getLsbD_eq; intro i hi
     rw [lowN_get _ _ _ hi]
     by_cases h2 : i < 8 * k
     · have := congrArg (fun z => z.getLsbD (i % 8)) (h1 (i / 8) (by omega))
       simp only [mB, BitVec.getLsbD_setWidth, BitVec.getLsbD_ushiftRight] at this
       rw [show 8 * (i / 8) + i % 8 = i by omega] at this
       have h8 : i % 8 < 8 := by omega
       simp [h8] at this
       simp [this]
     · simp [h2]
   · intro h1 j hj
     apply BitVec.eq_of_getLsbD_eq; intro i hi
     have : (lowN (8 * k) mask).getLsbD (8 * j + i) = (0#64).getLsbD (8 * j + i) := by rw [h1]
     rw [lowN_get _ _ _ (by omega)] at this
     simp only [show 8 * j + i < 8 * k by omega, decide_true, Bool.true_and] at this
     rw [mB, BitVec.getLsbD_setWidth, BitVec.getLsbD_ushiftRight, this]; simp
  cases ha : anyL mask k with
  | false => rw [h'.1 ha]; rfl
  | true =>
    have : ¬ lowN (8 * k) mask = 0#64 := fun e => by rw [h'.2 e] at ha; cases ha
    simp [this]
/-- Bits that are turned within eight neighbouring bytes, if any is, turn the sum. -/
theorem diff_tells (n p : Nat) (mask : BitVec 64) (k : Nat) (hk : k ≤ 8) (h : p + k ≤ n) : (takeL 0#64 (diffL n p mask k) != 0#64) = anyL mask k := by
  rw [diff_split n p mask k h, takeL_append, takeL_append, takeL_zeros (n - (p + k)), takeL_zeros p, iterB_zero, range_bytesN mask k hk,
    takeL_bytes k 0#64 _ (by
      apply BitVec.eq_of_getLsbD_eq; intro i hi
      rw [BitVec.getLsbD_ushiftRight]
      by_cases h1 : 8 * k + i < 64
      · rw [lowN_get _ _ _ h1]; simp; omega
      · rw [BitVec.getLsbD_of_ge _ _ (by omega)]; simp), BitVec.zero_xor, ← iterB_add, anyL_eq mask k hk]
  rw [Bool.eq_iff_iff]
  simp only [bne_iff_ne, ne_eq, decide_eq_true_eq]
  constructor
  · intro h1 h2; exact h1 (by rw [h2, iterB_zero])
  · intro h1 h2; exact h1 (iterB_inj _ (by rw [h2, iterB_zero]))
theorem xor_U8 (x y : Int) : bits .xor .u8 x y = U8 (BitVec.ofInt 8 x ^^^ BitVec.ofInt 8 y) := by
  show IntKind.u8.wrap (((BitVec.ofInt 8 x ^^^ BitVec.ofInt 8 y)).toNat : Int) = _
  rw [IntKind.wrap_u8]; unfold U8; have := (BitVec.ofInt 8 x ^^^ BitVec.ofInt 8 y).isLt; omega
theorem mB_div (mask : BitVec 64) (k : Nat) : BitVec.ofInt 8 (U64 mask / 2 ^ (8 * k)) = mB mask k := byteAt_eq mask k
attribute [local go_sem] wrap_U8 U8_ofInt xor_U8 mB_div
theorem cast_mB (mask : BitVec 64) (k : Nat) : (mask >>> (8 * k)).setWidth 8 = mB mask k := rfl
theorem vBs_set (l : List (BitVec 8)) (i : Nat) (b : BitVec 8) : (vBs l).set i (.int .u8 (U8 b)) = vBs (l.set i b) := by
  simp [vBs, List.map_set, vB]
theorem U8_bne0 (x : BitVec 8) : (U8 x != 0) = (x != 0#8) := U8_bne x 0#8
theorem owns_sl {w : World} {base n m cap : Nat} {ad : Option Addr} {xs : List Value} (h : w.ownsRow base 5 1 (.slice ad m cap) n xs) : Sl w ad xs := by
  rcases h.2 with ⟨hv, h0⟩ | ⟨g, cap', cur, hv, _⟩
  · have h1 := h.1
    have : xs = [] := List.length_eq_zero_iff.1 (by omega)
    rw [this]; exact Sl.nil _ _
  · injection hv with h1 h2 h3
    subst h1 h2 h3
    exact sl_of_owns h
theorem turned_any (a : Option Addr) (c : Nat) (l : List (BitVec 8)) (p : Nat) (mask : BitVec 64) (w : World) (hl : l.length ≤ 140737488351232) (hc : a = none → l.length = 0 ∧ c = 0) (ha : Sl w a (vBs l)) (hp : p ≤ l.length) :
    Calls Try.prog 15 #[.slice a l.length c, .int .i64 p, .int .u64 (U64 mask)] w fun e w' => ∃ ad cap, e = .returned (.tuple #[.slice ad l.length cap, .bool (anyL mask (min 8 (l.length - p)))]) ∧
      Sl w' ad (vBs (turnL l p mask (min 8 (l.length - p)))) ∧ Below w.heap.size w w' := by
  have HA := Lib.hid ha
  have HC := Lib.hid hc
  clear ha hc
  obtain ⟨K, hK⟩ : ∃ K, K = min 8 (l.length - p) := ⟨_, rfl⟩
  rw [← hK]
  go_enter Try.func15, Try.ntmps15
  go_wp2_with (at_builtin; refine wpList_append_sl rfl _ _ 29 rfl w.heap.size 5 (.int .u8 0) 1 1 Try.underlying29 Try.info5 rfl (by decide) _ 0 [] rfl (World.ownsRow_nil _ _ _ _) a l.length c (vBs l) rfl HC.out (by rw [vBs_length]; omega) HA.out (oneCell_vBs l) ?c1 ?c2 (Nat.le_refl _) ?c3)
  case c1 => unfold maxLen; omega
  case c2 => omega
  case c3 =>
    intro v1 w1 hown hgr
    have hB := (Below.refl w.heap.size w).grown hgr (Nat.le_refl _) (fun k hk => by cases hk)
    obtain ⟨ad, cap, rfl, hcap⟩ : ∃ ad cap, v1 = .slice ad l.length cap ∧ l.length ≤ cap := by
      rcases hown.2 with ⟨hv, h0⟩ | ⟨g, cap, cur, hv, hg, hh, hn, hcm, hcs, htk⟩
      · exact ⟨none, 0, by rw [hv]; congr 1; omega, by omega⟩
      · exact ⟨_, cap, hv, hn⟩
    have HO := Lib.hid hown
    have HB := Lib.hid hB
    have HKK := Lib.hid hK
    clear hown hB hgr HA HC hK
    go_wp2
    go_loopw [9, 10] (fun q i wr => ∃ k : Nat, k ≤ K ∧ i = .int .i64 k ∧ q = .bool (anyL mask k) ∧ Below w.heap.size w wr ∧ wr.ownsRow w.heap.size 5 1 (.slice ad l.length cap) l.length (vBs (turnL l p mask k))) (fun _ i _ => 8 - (intOf i).toNat)
    case atStart => exact ⟨0, by omega, rfl, rfl, HB.out, HO.out⟩
    case round =>
      clear HB HO
      obtain ⟨k, hk, rfl, rfl, hB, hO⟩ := hrel
      have hK := HKK.out
      by_cases hlt : k < K
      · have hk8 : k < 8 := by omega
        have hpk : p + k < l.length := by omega
        obtain ⟨g, cap', cu, hv, hg, hh, hn, hcm, hcs, htk⟩ := owns_cases hO (by omega)
        injection hv with hv1 hv2 hv3
        subst hv1 hv3
        have hb1 : decide ((k : Int) < 8) = true := by simp; omega
        have hb2 : decide ((p : Int) + (k : Int) < (l.length : Int)) = true := by simp; omega
        obtain ⟨t, ht⟩ : ∃ t, (turnL l p mask k)[p + k]? = some t := ⟨_, List.getElem?_eq_getElem (by rw [turnL_length]; exact hpk)⟩
        rw [Nat.mul_one] at htk
        have hcu : cu[p + k]? = some (.int .u8 (U8 t)) := by
          have := congrArg (fun z => z[p + k]?) htk
          rw [List.getElem?_take_of_lt hpk, Array.getElem?_toList] at this
          rw [this]; simp [vBs, ht, vB]
        have hc1 : wr.cell? ⟨g, p + k, none⟩ = some (.int .u8 (U8 t)) := by rw [cell_of_row _ _ _ _ _ _ hh, hcu]
        have hf1 := frozen_of_row _ _ (p + k) _ _ hh
        have HT2 := Lib.hid (show (cu.setIfInBounds (p + k) (.int .u8 (U8 (t ^^^ mB mask k)))).toList.take l.length = vBs (turnL l p mask (k + 1)) by
          rw [Array.toList_setIfInBounds, List.take_set, htk, vBs_set, turnL, ht]; rfl)
        have HG := Lib.hid hh
        have HB := Lib.hid hB
        have HS := Lib.hid hcs
        unfold maxLen at hcm
        have hcm2 := Lib.hid hcm
        clear hh hB hcs htk hO
        cases han : anyL mask k
        all_goals
          go_wp2
          go_roundw
          case rel =>
            exact ⟨k + 1, by omega, by go_num, by simp [anyL, han, U8_bne0], HB.out.setCell hg _, by rw [vBs_length, turnL_length, Nat.mul_one], .inr ⟨g, _, _, rfl, hg, heap_setCell_same _ _ _ _ _ _ HG.out, hn, hcm2.out, by rw [Array.size_setIfInBounds]; exact HS.out, by rw [Nat.mul_one]; exact HT2.out⟩⟩
          case measure => simp [intOf]; omega
      · have hkK := Lib.hid (show k = K by omega)
        have HB := Lib.hid hB
        have HO := Lib.hid hO
        clear hB hO
        have HE := Lib.hid (congrArg (anyL mask) hkK.out)
        by_cases h8 : k < 8
        · have hb1 : decide ((k : Int) < 8) = true := by simp; omega
          have hb2 : decide ((p : Int) + (k : Int) < (l.length : Int)) = false := by simp; omega
          clear hK hlt hk
          go_wp2
          go_ret2
          exact ⟨ad, cap, by rw [← HE.out]; rfl, by rw [← hkK.out]; exact owns_sl HO.out, HB.out⟩
        · have hb1 : decide ((k : Int) < 8) = false := by simp; omega
          clear hK hlt hk
          go_wp2
          go_ret2
          exact ⟨ad, cap, by rw [← HE.out]; rfl, by rw [← hkK.out]; exact owns_sl HO.out, HB.out⟩
end Go.Proofs.Ytdphcmmpkacmfaa
