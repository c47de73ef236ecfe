/-
  Layer 1: awake: ten coins for three.
-/
import Derived.Test.YtdkfaicmdbhonaaTi
namespace Go.Proofs.Ytdkfaicmdbhonaa
open Go.RowKit Go.K
set_option linter.unusedVariables false
set_option linter.unusedSimpArgs false
def ax3 : List (BitVec 64) := [1#64, 2#64, 3#64]
theorem ax_ok : okS ax3 := by unfold okS; decide
theorem ax_sh : shL 10 ax3 = [2#64, 3#64, 5#64] := by decide
theorem Rq.sl {W : World} {g n : Nat} {c : Nat → Nat} (h : Rq W g n c) : Sl W (some ⟨g, 0, none⟩) (rowQ c n) := fun _ => ⟨g, 0, rfl, fun i hi => by
  rw [rowQ_len] at hi
  rw [Nat.zero_add, h.cell i hi]
  simp [rowQ, hi]⟩
/-- The list that Shares answers, empty where there is none. -/
def shR (t : Nat) (l : List (BitVec 64)) : List (BitVec 64) := if 0 < l.length ∧ l.length ≤ 1024 ∧ 0 < sumL l ∧ sumL l < 18446744073709551616 then shL t l else []
def shE (l : List (BitVec 64)) : Int := if 0 < l.length ∧ l.length ≤ 1024 ∧ 0 < sumL l ∧ sumL l < 18446744073709551616 then 0 else errS l
/-- What Shares answers, said in one: a list in memory of its own, and an error. -/
theorem ShA.one {t : Nat} {l : List (BitVec 64)} {B : Nat} {W : World} {v : Value} (h : ShA t l B W v) (ht : t < 18446744073709551616) : ∃ a c, v = .tuple #[.slice a (shR t l).length c, .int .i64 (shE l)] ∧ W.ownsRow B 24 1 (.slice a (shR t l).length c) (shR t l).length (vQ (shR t l)) ∧ (a = none → (shR t l).length = 0 ∧ c = 0) := by
  rcases h with ⟨hok, g, rfl, hg, hr⟩ | ⟨hno, rfl⟩
  · have e1 : shR t l = shL t l := if_pos hok
    have e2 : shE l = 0 := if_pos hok
    rw [e1, e2, shL_len]
    refine ⟨_, _, rfl, ?_, fun e => by cases e⟩
    have hr2 : W.heap[g]? = some (.cells (vQ (shL t l)).toArray 24) := by rw [← rowQ_vQ hok.2.2.1 ht]; exact hr
    refine ⟨by rw [vQ_length, shL_len]; omega, .inr ⟨g, l.length, (vQ (shL t l)).toArray, rfl, hg, hr2, Nat.le_refl _, by unfold maxLen; have := hok.2.1; omega, by simp [vQ_length, shL_len], ?_⟩⟩
    rw [List.toList_toArray]
    exact List.take_of_length_le (by rw [vQ_length, shL_len]; omega)
  · have e1 : shR t l = [] := if_neg hno
    have e2 : shE l = errS l := if_neg hno
    rw [e1, e2]
    exact ⟨none, 0, rfl, World.ownsRow_nil _ _ _ _, fun _ => ⟨rfl, rfl⟩⟩
theorem shares_one (t : BitVec 64) (l : List (BitVec 64)) (a : Option Addr) (cap : Nat) (w : World) (hl : l.length ≤ 17592186043904) (hs : Sl w a (vQ l)) :
    Calls Try.prog 34 #[.int .u64 (U64 t), .slice a l.length cap] w fun r w' => ∃ a' c', r = .returned (.tuple #[.slice a' (shR t.toNat l).length c', .int .i64 (shE l)]) ∧ w'.ownsRow w.heap.size 24 1 (.slice a' (shR t.toNat l).length c') (shR t.toNat l).length (vQ (shR t.toNat l)) ∧ (a' = none → (shR t.toNat l).length = 0 ∧ c' = 0) ∧ Below w.heap.size w w' := by
  refine (shares_any t l a cap w hl hs).mono ?_
  rintro r w' ⟨v, rfl, hv, hb⟩
  obtain ⟨a', c', rfl, h1, h2⟩ := hv.one t.isLt
  exact ⟨a', c', rfl, h1, h2, hb⟩
/-- A slice of its own memory, as its cells. -/
theorem owns_sl {W : World} {B : Nat} {t : TypeId} {a : Option Addr} {n c : Nat} {xs : List Value} (h : W.ownsRow B t 1 (.slice a n c) n xs) (hx : xs.length = n) : Sl W a xs := by
  rcases h.2 with ⟨hv, h0⟩ | ⟨g2, cap2, cur, hv, hg2, hh, hnc, hcm, hcs, htk⟩
  · have : xs = [] := List.eq_nil_of_length_eq_zero (by omega)
    rw [this]; exact Sl.nil _ _
  · injection hv with e1 e2 e3
    subst e1
    exact sl_of_owns h
set_option maxRecDepth 100000 in
set_option maxHeartbeats 2000000 in
theorem awake_any (w : World) : Calls Try.prog 40 #[] w fun e w' => e = .returned (.bool true) ∧ Below w.heap.size w w' := by
  obtain ⟨w1, hw1⟩ : ∃ w1, w1 = w.alloc (.cells #[.int .u64 1, .int .u64 2, .int .u64 3] 24) := ⟨_, rfl⟩
  have hb1 : Below w.heap.size w w1 := by rw [hw1]; exact (Below.refl _ _).alloc (Nat.le_refl _) _
  have sa : Sl w1 (some ⟨w.heap.size, 0, none⟩) (vQ ax3) := by rw [hw1]; exact sl_new w [.int .u64 1, .int .u64 2, .int .u64 3] 24 (0, 0)
  have hsh := shares_any 10#64 ax3 (some ⟨w.heap.size, 0, none⟩) 3 w1 (by decide) sa
  have K34 := Lib.hid (show Calls Try.prog 34 #[.int .u64 10, .slice (some ⟨w.heap.size, 0, none⟩) 3 3] w1 fun r w' => ∃ g, r = .returned (.tuple #[.slice (some ⟨g, 0, none⟩) 3 3, .int .i64 0]) ∧ Sl w' (some ⟨g, 0, none⟩) (vQ [2#64, 3#64, 5#64]) ∧ Below w1.heap.size w1 w' by
    refine hsh.mono ?_
    rintro r w' ⟨v, rfl, hv, hb⟩
    rcases hv with ⟨hok, g, rfl, _, hr⟩ | ⟨hno, _⟩
    · refine ⟨g, rfl, ?_, hb⟩
      have h := hr.sl
      rw [rowQ_vQ hok.2.2.1 (by decide)] at h
      rw [← ax_sh]
      exact h
    · exact absurd ax_ok hno)
  have HB1 := Lib.hid hb1
  have HW1 := Lib.hid hw1
  clear hb1 sa hsh hw1
  go_enter Try.func40, Try.ntmps40
  go_wp2_with fail
  rw [← HW1.out]
  refine K34.out.mono ?_
  rintro e w2 ⟨g, rfl, hs, hb⟩
  have HS := Lib.hid hs
  have HB2 := Lib.hid (HB1.out.trans (hb.mono HB1.out.size))
  clear hs hb K34
  obtain ⟨w3, hw3⟩ : ∃ w3, w3 = w2.alloc (.cells #[.int .u64 1, .int .u64 2, .int .u64 3] 24) := ⟨_, rfl⟩
  have hb3 : Below w2.heap.size w2 w3 := by rw [hw3]; exact (Below.refl _ _).alloc (Nat.le_refl _) _
  have sb : Sl w3 (some ⟨w2.heap.size, 0, none⟩) (vQ ax3) := by rw [hw3]; exact sl_new w2 [.int .u64 1, .int .u64 2, .int .u64 3] 24 (0, 0)
  have hsum := csum_any (some ⟨w2.heap.size, 0, none⟩) 3 ax3 w3 (by decide) sb
  rw [show fitV ((sumL ax3 : Nat) : Int) = .tuple #[.int .u64 6, .int .i64 0] by rw [fitV_yes (by unfold fits; decide)]; rfl] at hsum
  have K13 := Lib.hid (show Calls Try.prog 13 #[.slice (some ⟨w2.heap.size, 0, none⟩) 3 3] w3 fun e w' => e = .returned (.tuple #[.int .u64 6, .int .i64 0]) ∧ w3 = w' from hsum)
  have HS := Lib.hid (HS.out.kept hb3)
  have HB3 := Lib.hid (HB2.out.trans (hb3.mono HB2.out.size))
  have HW3 := Lib.hid hw3
  clear hb3 sb hsum hw3
  go_wp2_with fail
  rw [← HW3.out]
  refine K13.out.mono ?_
  rintro e w4 ⟨rfl, rfl⟩
  have h5 : Below w3.heap.size w3 (w3.alloc (.cells #[.int .u64 2, .int .u64 3, .int .u64 5] 24)) := (Below.refl _ _).alloc (Nat.le_refl _) _
  have K36 := Lib.hid (same_any (some ⟨g, 0, none⟩) (some ⟨w3.heap.size, 0, none⟩) 3 3 [2#64, 3#64, 5#64] [2#64, 3#64, 5#64] (w3.alloc (.cells #[.int .u64 2, .int .u64 3, .int .u64 5] 24)) (by decide) rfl (HS.out.kept h5) (sl_new w3 [.int .u64 2, .int .u64 3, .int .u64 5] 24 (0, 0)))
  rw [show decide ([2#64, 3#64, 5#64] = [2#64, 3#64, 5#64]) = true by decide] at K36
  have HB5 := Lib.hid (HB3.out.trans (h5.mono HB3.out.size))
  clear h5
  go_wp2_with fail
  refine K36.out.mono ?_
  rintro e w5 ⟨rfl, hq⟩
  have HB6 := Lib.hid (HB5.out.trans ((hq.below _).mono HB5.out.size))
  clear hq K36
  go_wp2
  go_ret
  exact ⟨rfl, HB6.out⟩
end Go.Proofs.Ytdkfaicmdbhonaa
