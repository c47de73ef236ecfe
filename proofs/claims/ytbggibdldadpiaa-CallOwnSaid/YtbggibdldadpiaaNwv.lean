/-
  Layer 1: numbers of 128 bits: the program's, and the document's by numbers of any length.
-/
import Derived.Test.YtbggibdldadpiaaNwt
namespace Go.Proofs.Ytbggibdldadpiaa.n01
open Go.RowKit Go.K Go.Words
set_option linter.unusedVariables false
set_option linter.unusedSimpArgs false
def wN (hi lo : BitVec 64) : Nat := hi.toNat * 18446744073709551616 + lo.toNat
theorem wN_lt (hi lo : BitVec 64) : wN hi lo < 340282366920938463463374607431768211456 := by
  unfold wN; have := hi.isLt; have := lo.isLt; omega
theorem pw900_big (n : Nat) (h : n < 1461501637330902918203684832716283019655932542976) : n < pw 900 := Nat.lt_of_lt_of_le h (by
  have h1 : pw 5 ≤ pw 900 := pw_le (by omega)
  have h2 : pw 5 = 1461501637330902918203684832716283019655932542976 := by rw [pw_eq]
  omega)
theorem isInt_at (w : World) (o : Obj) (g : Nat) (h : w.heap[g]? = some (.cells #[.bool false, .slice none 0 0] 73)) : IsInt w g := ⟨_, _, _, _, h⟩
def WideV (hi lo : BitVec 64) : Value := .agg #[.int .u64 (U64 hi), .int .u64 (U64 lo)]
/-- A number as a wide has it. -/
def wideV (N : Nat) : Value := if N < 340282366920938463463374607431768211456 then .tuple #[.int .u64 (U64 (BitVec.ofNat 64 (N / 18446744073709551616))), .int .u64 (U64 (BitVec.ofNat 64 N)), .bool true] else .tuple #[.int .u64 0, .int .u64 0, .bool false]
theorem wideV_yes {N : Nat} (h : N < 340282366920938463463374607431768211456) : wideV N = .tuple #[.int .u64 (U64 (BitVec.ofNat 64 (N / 18446744073709551616))), .int .u64 (U64 (BitVec.ofNat 64 N)), .bool true] := if_pos h
theorem wideV_no {N : Nat} (h : ¬ N < 340282366920938463463374607431768211456) : wideV N = .tuple #[.int .u64 0, .int .u64 0, .bool false] := if_neg h
set_option maxRecDepth 100000 in
theorem wide_any (g N : Nat) (w : World) (hz : IntAt w g (N : Int)) (hb : N < 1461501637330902918203684832716283019655932542976) : Calls Try.prog 19 #[.pointer (some ⟨g, 0, none⟩)] w fun e w' => e = .returned (wideV N) ∧ Below w.heap.size w w' := by
  have h9 := pw900_big N hb
  have HS := Lib.hid (sign_any g (N : Int) w hz)
  have HL := Lib.hid (bitlen_any g (N : Int) w hz (by rw [Int.natAbs_natCast]; exact h9))
  have HZ := Lib.hid hz
  have H9 := Lib.hid h9
  have hs : 0 ≤ sgn (N : Int) := by unfold sgn; rw [if_neg (by omega)]; split <;> omega
  rw [Int.natAbs_natCast] at HL
  have hbl := bl_le N 128
  clear hz h9
  generalize sgn (N : Int) = sg' at *
  go_enter Try.func19, Try.ntmps19
  by_cases h : N < 340282366920938463463374607431768211456
  · have hb128 : bl N ≤ 128 := hbl.2 h
    have HV := Lib.hid (wideV_yes h)
    have HH := Lib.hid h
    clear hbl h hb
    generalize bl N = b at *
    go_wp2_with fail
    refine HS.out.mono ?_
    rintro e w1 ⟨rfl, rfl⟩
    go_wp2_with fail
    refine HL.out.mono ?_
    rintro e w1 ⟨rfl, hq⟩
    have HQ := Lib.hid hq
    clear hq
    have HZ1 := Lib.hid (HZ.out.kept (HQ.out.below _))
    have HN1 := Lib.hid (isInt_new w1)
    have HZA := Lib.hid (HZ1.out.kept ((Below.refl w1.heap.size w1).alloc (Nat.le_refl _) (.cells #[.bool false, .slice none 0 0] 73)))
    have K48 := Lib.hid (rsh_any w1.heap.size g (N : Int) _ HN1.out HZA.out (by rw [Int.natAbs_natCast]; exact H9.out))
    rw [Int.natAbs_natCast] at K48
    go_wp2_with fail
    refine K48.out.mono ?_
    rintro e w2 ⟨rfl, hg2, hi2⟩
    have HI2 := Lib.hid hi2
    have HZ2 := Lib.hid (show IntAt w2 g (N : Int) from HZA.out.away HN1.out hg2 (fun e => by
      obtain ⟨_, _, _, _, h, _⟩ := HZ1.out
      have := lt_row h
      omega))
    have HB2 := Lib.hid (show Below w.heap.size w w2 from (((HQ.out.below w.heap.size).alloc (HQ.out.below w.heap.size).size (.cells #[.bool false, .slice none 0 0] 73))).grown hg2 ((HQ.out.below w.heap.size).alloc (HQ.out.below w.heap.size).size _).size (fun k hk => by cases hk; exact (HQ.out.below w.heap.size).size))
    clear hi2 hg2 K48
    have K49 := Lib.hid (uint64_any w1.heap.size _ w2 HI2.out (by rw [Int.natAbs_natCast]; exact Nat.lt_of_le_of_lt (Nat.div_le_self _ _) H9.out))
    rw [Int.natAbs_natCast] at K49
    go_wp2_with fail
    refine K49.out.mono ?_
    rintro e w3 ⟨rfl, hq3⟩
    have HB3 := Lib.hid (HB2.out.trans (hq3.below _))
    have K49' := Lib.hid (uint64_any g _ w3 (HZ2.out.kept (hq3.below _)) (by rw [Int.natAbs_natCast]; exact H9.out))
    rw [Int.natAbs_natCast] at K49'
    clear hq3 K49
    go_wp2_with fail
    refine K49'.out.mono ?_
    rintro e w4 ⟨rfl, hq4⟩
    have HB4 := Lib.hid (HB3.out.trans (hq4.below _))
    clear hq4 K49'
    go_wp2
    go_ret3
    exact ⟨by rw [HV.out]; rfl, HB4.out⟩
  · have hb128 : 128 < bl N := by
      rcases Nat.lt_or_ge 128 (bl N) with e | e
      · exact e
      · exact absurd (hbl.1 e) h
    have HV := Lib.hid (wideV_no h)
    have hbl9 : bl N ≤ 200 := (bl_le N 200).2 (Nat.lt_of_lt_of_le hb (by decide))
    clear hbl h hb
    generalize bl N = b at *
    go_wp2_with fail
    refine HS.out.mono ?_
    rintro e w1 ⟨rfl, rfl⟩
    go_wp2_with fail
    refine HL.out.mono ?_
    rintro e w1 ⟨rfl, hq⟩
    have HB4 := Lib.hid (hq.below w.heap.size)
    clear hq
    go_wp2
    go_ret3
    exact ⟨by rw [HV.out]; rfl, HB4.out⟩
end Go.Proofs.Ytbggibdldadpiaa.n01

