/-
  Layer 1: the document's Shares of any weights, said in one.
-/
import Derived.Test.YtdkfaicmdbhonaaXb
namespace Go.Proofs.Ytdkfaicmdbhonaa
open Go.RowKit Go.K Go.ChangeShapes Go.WideShapes Go.ChangeAt Go.Words
set_option linter.unusedVariables false
set_option linter.unusedSimpArgs false
theorem bl_gt64 (n : Nat) (h : 18446744073709551616 ≤ n) : 64 < bl n := by
  rcases Nat.lt_or_ge 64 (bl n) with h1 | h1
  · exact h1
  · have := (bl_le n 64).1 h1; omega
set_option maxRecDepth 100000 in
set_option maxHeartbeats 2000000 in
theorem rshares_no (t : BitVec 64) (l : List (BitVec 64)) (a : Option Addr) (cap : Nat) (w : World) (hs : Sl w a (vQ l)) (hok : ¬ okS l) :
    Calls Try.prog 35 #[.int .u64 (U64 t), .slice a l.length cap] w fun r w' => r = .returned (.tuple #[.slice none 0 0, .int .i64 (errS l)]) ∧ Below w.heap.size w w' := by
  by_cases n0 : l.length = 0
  · have d1 : ((l.length : Int) == 0) = true := by rw [beq_iff_eq]; omega
    have HE := Lib.hid (show errS l = 2 from if_pos (.inl n0))
    rw [HE.out]
    clear n0
    go_enter Try.func35, Try.ntmps35
    go_wp2
    go_ret2
    exact ⟨rfl, Below.refl _ _⟩
  have d1 : ((l.length : Int) == 0) = false := by rw [beq_eq_false_iff_ne]; omega
  by_cases n1 : 1024 < l.length
  · have d2 : decide (1024 < (l.length : Int)) = true := decide_eq_true (by omega)
    have d2n : decide (1024 < l.length) = true := decide_eq_true n1
    have HE := Lib.hid (show errS l = 2 from if_pos (.inr n1))
    rw [HE.out]
    clear n0 n1
    go_enter Try.func35, Try.ntmps35
    go_wp2
    go_ret2
    exact ⟨rfl, Below.refl _ _⟩
  have d2 : decide (1024 < (l.length : Int)) = false := decide_eq_false (by omega)
  have d2n : decide (1024 < l.length) = false := decide_eq_false n1
  have HS := Lib.hid hs
  have K37 := Lib.hid (all_any a cap l w (by omega) hs)
  have HL := Lib.hid (show ((sumL l : Nat) : Int).natAbs < pw 900 by have := sumL_small l l.length (by omega); rwa [List.take_length] at this)
  have hE : errS l = if 18446744073709551616 ≤ sumL l then 10 else 2 := by unfold errS; rw [if_neg (by omega)]
  have hz : sumL l < 18446744073709551616 → sumL l = 0 := by intro h; unfold okS at hok; omega
  have HN := Lib.hid (And.intro hE hz)
  clear n0 n1 hs hok hE hz
  go_enter Try.func35, Try.ntmps35
  go_wp2_with fail
  refine K37.out.mono ?_
  rintro e w1 ⟨rfl, hi1, hb1⟩
  have HI1 := Lib.hid hi1
  have HB1 := Lib.hid hb1
  clear hi1 hb1 K37
  have K39 := bitlen_any w.heap.size _ w1 HI1.out HL.out
  rw [Int.natAbs_natCast] at K39
  obtain ⟨bv, hbv⟩ : ∃ bv, bv = bl (sumL l) := ⟨_, rfl⟩
  rw [← hbv] at K39
  by_cases n2 : 18446744073709551616 ≤ sumL l
  · have hbl := bl_gt64 _ n2
    rw [← hbv] at hbl
    have d3 : decide (64 < (bv : Int)) = true := decide_eq_true (by omega)
    have d3n : decide (64 < bv) = true := decide_eq_true hbl
    have HE := Lib.hid (show errS l = 10 by rw [HN.out.1, if_pos n2])
    have K39 := Lib.hid K39
    clear hbl hbv n2
    go_wp2_with fail
    refine K39.out.mono ?_
    rintro e w2 ⟨rfl, hq⟩
    have HB2 := Lib.hid (HB1.out.trans ((hq.below _).mono HB1.out.size))
    clear hq
    go_wp2
    go_ret2
    exact ⟨by rw [HE.out]; rfl, HB2.out⟩
  · have hbl : bl (sumL l) ≤ 64 := (bl_le _ 64).2 (by omega)
    rw [← hbv] at hbl
    have d3 : decide (64 < (bv : Int)) = false := decide_eq_false (by omega)
    have d3n : decide (64 < bv) = false := decide_eq_false (by omega)
    have HE := Lib.hid (show errS l = 2 by rw [HN.out.1, if_neg n2])
    have h0 := HN.out.2 (by omega)
    have K39 := Lib.hid K39
    have H0 := Lib.hid h0
    clear hbl hbv n2 h0
    go_wp2_with fail
    refine K39.out.mono ?_
    rintro e w2 ⟨rfl, hq⟩
    have HB2 := Lib.hid (HB1.out.trans ((hq.below _).mono HB1.out.size))
    have K38 := sign_any w.heap.size _ w2 (HI1.out.kept (hq.below _))
    rw [H0.out, show sgn ((0 : Nat) : Int) = 0 by rfl] at K38
    have K38 := Lib.hid K38
    clear hq
    go_wp2_with fail
    refine K38.out.mono ?_
    rintro e w3 ⟨rfl, rfl⟩
    go_wp2
    go_ret2
    exact ⟨by rw [HE.out]; rfl, HB2.out⟩
theorem rshares_one (t : BitVec 64) (l : List (BitVec 64)) (a : Option Addr) (cap : Nat) (w : World) (hs : Sl w a (vQ l)) :
    Calls Try.prog 35 #[.int .u64 (U64 t), .slice a l.length cap] w fun r w' => ∃ a' c', r = .returned (.tuple #[.slice a' (shR t.toNat l).length c', .int .i64 (shE l)]) ∧ Sl w' a' (vQ (shR t.toNat l)) ∧ Below w.heap.size w w' := by
  by_cases hok : okS l
  · refine (rshares_yes t l a cap w hs hok).mono ?_
    rintro r w' ⟨a', c', rfl, ho, hb⟩
    have e1 : shR t.toNat l = shL t.toNat l := if_pos hok
    have e2 : shE l = 0 := if_pos hok
    rw [e1, e2, shL_len]
    exact ⟨a', c', rfl, owns_sl ho (by rw [vQ_length, shL_len]), hb⟩
  · refine (rshares_no t l a cap w hs hok).mono ?_
    rintro r w' ⟨rfl, hb⟩
    have e1 : shR t.toNat l = [] := if_neg hok
    have e2 : shE l = errS l := if_neg hok
    rw [e1, e2]
    exact ⟨none, 0, rfl, Sl.nil _ _, hb⟩
end Go.Proofs.Ytdkfaicmdbhonaa
