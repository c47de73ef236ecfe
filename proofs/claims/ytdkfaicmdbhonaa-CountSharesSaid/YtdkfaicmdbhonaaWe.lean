/-
  Layer 1: the program's sums, and the document's, walked: Add, Take, Sum.
-/
import Derived.Test.YtdkfaicmdbhonaaWd
import Derived.Laws.Externs
namespace Go.Proofs.Ytdkfaicmdbhonaa
open Go.RowKit Go.K Go.Words
set_option linter.unusedVariables false
set_option linter.unusedSimpArgs false

def vQ (l : List (BitVec 64)) : List Value := l.map fun c => .int .u64 (U64 c)
theorem vQ_length (l : List (BitVec 64)) : (vQ l).length = l.length := by simp [vQ]
theorem vQ_get (l : List (BitVec 64)) (i : Nat) (h : i < l.length) : (vQ l)[i]? = some (.int .u64 (U64 l[i])) := by
  simp [vQ, List.getElem?_eq_getElem h]
theorem vQ_append (l m : List (BitVec 64)) : vQ (l ++ m) = vQ l ++ vQ m := by simp [vQ]
theorem vQ_take (l : List (BitVec 64)) (n : Nat) : vQ (l.take n) = (vQ l).take n := by simp [vQ, List.map_take]
theorem vQ_set (l : List (BitVec 64)) (k : Nat) (c : BitVec 64) : (vQ l).set k (.int .u64 (U64 c)) = vQ (l.set k c) := by simp [vQ, List.map_set]
theorem vQ_ne {l : List (BitVec 64)} {k : Nat} (h : k < l.length) : vQ l ≠ [] := fun e => by
  have := congrArg List.length e
  rw [vQ_length] at this
  simp only [List.length_nil] at this
  omega
theorem oneCell_vQ (l : List (BitVec 64)) : ∀ u ∈ vQ l, u.oneCell' = true := by
  intro u hu
  obtain ⟨c, _, rfl⟩ := List.mem_map.1 hu
  rfl
theorem Try.info24 : (Try.prog.info? 24).map (fun i => (i.zero, i.size, i.bytes)) = some (some (.int .u64 0), 1, 8) := by kernel_rfl
def add64E : Array Value → Sem Value := (Extern.MathBitsCarry.rows[0]!).2
theorem call44 (x y : BitVec 64) (w : World) : (callFunc 44 #[.int .u64 (U64 x), .int .u64 (U64 y), .int .u64 0]).run Try.prog w = .ok (.value (.tuple #[.int .u64 (U64 (x + y)), .int .u64 (((x.toNat + y.toNat) / 18446744073709551616 : Nat) : Int)])) w := by
  rw [run_callFunc_extern (e := add64E) Try.func44 (by kernel_rfl) (by kernel_rfl) (by kernel_rfl) (by kernel_rfl)]
  have h1 : (U64 x).toNat = x.toNat := by unfold U64; rfl
  have h2 : (U64 y).toNat = y.toNat := by unfold U64; rfl
  show Result.ok (Next.value (Extern.MathBitsCarry.pair (((U64 x).toNat + (U64 y).toNat + 0) % 18446744073709551616) (((U64 x).toNat + (U64 y).toNat + 0) / 18446744073709551616))) w = _
  rw [h1, h2]
  unfold U64
  rw [BitVec.toNat_add]; rfl
theorem cadd_any (x y : BitVec 64) (w : World) : Calls Try.prog 16 #[.int .u64 (U64 x), .int .u64 (U64 y)] w fun e w' => e = .returned (fitV ((x.toNat + y.toNat : Nat) : Int)) ∧ w = w' := by
  have hc := fun w => call44 x y w
  have hx := x.isLt
  have hy := y.isLt
  by_cases h : x.toNat + y.toNat < 18446744073709551616
  · have e0 : (x.toNat + y.toNat) / 18446744073709551616 = 0 := by omega
    rw [e0] at hc
    have HF := Lib.hid (show fitV ((x.toNat + y.toNat : Nat) : Int) = .tuple #[.int .u64 (U64 (x + y)), .int .i64 0] by
      rw [fitV_yes (by unfold fits; omega)]
      have : BitVec.ofNat 64 ((x.toNat + y.toNat : Nat) : Int).toNat = x + y := by
        apply BitVec.eq_of_toNat_eq; rw [BitVec.toNat_ofNat, BitVec.toNat_add]; rfl
      rw [this])
    clear hx hy h e0
    generalize x + y = s at *
    go_enter Try.func16, Try.ntmps16
    go_wp2
    go_ret2
    exact ⟨by rw [HF.out]; rfl, rfl⟩
  · have e0 : (x.toNat + y.toNat) / 18446744073709551616 = 1 := by omega
    rw [e0] at hc
    have HF := Lib.hid (show fitV ((x.toNat + y.toNat : Nat) : Int) = .tuple #[.int .u64 0, .int .i64 10] from fitV_no (by unfold fits; omega))
    clear hx hy h e0
    generalize x + y = s at *
    go_enter Try.func16, Try.ntmps16
    go_wp2
    go_ret2
    exact ⟨by rw [HF.out]; rfl, rfl⟩
def sumL (l : List (BitVec 64)) : Nat := (l.map BitVec.toNat).sum
theorem sumL_append (l m : List (BitVec 64)) : sumL (l ++ m) = sumL l + sumL m := by simp [sumL]
theorem sumL_take_succ (l : List (BitVec 64)) (k : Nat) (h : k < l.length) : sumL (l.take (k + 1)) = sumL (l.take k) + l[k].toNat := by
  rw [List.take_succ_eq_append_getElem h, sumL_append]; simp [sumL]
theorem sumL_take_le (l : List (BitVec 64)) (k : Nat) : sumL (l.take k) ≤ sumL l := by
  conv => rhs; rw [← List.take_append_drop k l, sumL_append]
  omega
set_option maxRecDepth 100000 in
theorem csum_any (a : Option Addr) (cap : Nat) (l : List (BitVec 64)) (w : World) (hl : l.length ≤ maxLen) (hs : Sl w a (vQ l)) :
    Calls Try.prog 13 #[.slice a l.length cap] w fun e w' => e = .returned (fitV (sumL l)) ∧ w = w' := by
  unfold maxLen at hl
  have HS := Lib.hid hs
  clear hs
  go_enter Try.func13, Try.ntmps13
  go_wp2
  go_loop [4, 11] (fun s i => ∃ k : Nat, k ≤ l.length ∧ i = .int .i64 k ∧ s = .int .u64 (U64 (BitVec.ofNat 64 (sumL (l.take k)))) ∧ fits (sumL (l.take k))) (fun _ i => l.length - (intOf i).toNat)
  case atStart => exact ⟨0, Nat.zero_le _, rfl, rfl, by unfold fits; simp [sumL]⟩
  case round =>
    obtain ⟨k, hk, rfl, rfl, hf⟩ := hrel
    have HF := Lib.hid hf
    clear hf
    by_cases hlt : k < l.length
    · obtain ⟨b, off, rfl, hc⟩ := HS.out (vQ_ne hlt)
      have h1 := hc k (by rw [vQ_length]; exact hlt)
      rw [vQ_get l k hlt] at h1
      have t0 : decide ((k : Int) < (l.length : Int)) = true := by simp; omega
      have i1 : (k : Int) < (l.length : Int) := by omega
      have HX := Lib.hid (show ((BitVec.ofNat 64 (sumL (l.take k))).toNat + l[k].toNat : Nat) = sumL (l.take (k + 1)) by
        rw [sumL_take_succ l k hlt, BitVec.toNat_ofNat, Nat.mod_eq_of_lt (by have := HF.out.2; omega)])
      have HT := Lib.hid (sumL_take_le l (k + 1))
      have HC := Lib.hid (cadd_any (BitVec.ofNat 64 (sumL (l.take k))) l[k] w)
      clear hc
      generalize BitVec.ofNat 64 (sumL (l.take k)) = s at *
      generalize l[k] = x at *
      by_cases hfit : fits (sumL (l.take (k + 1)))
      · have HFF := Lib.hid hfit
        have hy := fitV_yes hfit
        rw [← HX.out] at hy
        have HY := Lib.hid hy
        clear hfit hy
        go_wp2_with fail
        refine HC.out.mono ?_
        rintro e w1 ⟨rfl, rfl⟩
        rw [HY.out, HX.out]
        go_wp2
        go_round
        case rel => exact ⟨k + 1, by omega, by go_num, rfl, HFF.out⟩
        case measure => simp [intOf]; omega
      · have hy := fitV_no hfit
        rw [← HX.out] at hy
        have HY := Lib.hid hy
        have HE := Lib.hid (show fitV (sumL l) = .tuple #[.int .u64 0, .int .i64 10] from fitV_no (fun h => hfit (by unfold fits at *; have := HT.out; omega)))
        clear hfit hy
        go_wp2_with fail
        refine HC.out.mono ?_
        rintro e w1 ⟨rfl, rfl⟩
        rw [HY.out]
        go_wp2
        go_ret2
        exact ⟨by rw [HE.out]; rfl, rfl⟩
    · have t0 : decide ((k : Int) < (l.length : Int)) = false := by simp; omega
      have HE := Lib.hid (show fitV (sumL l) = .tuple #[.int .u64 (U64 (BitVec.ofNat 64 (sumL (l.take k)))), .int .i64 0] by
        have e : l.take k = l := List.take_of_length_le (by omega)
        have := HF.out
        rw [e] at this ⊢
        rw [fitV_yes this]; rfl)
      go_wp2
      go_ret2
      exact ⟨by rw [HE.out]; rfl, rfl⟩
end Go.Proofs.Ytdkfaicmdbhonaa
