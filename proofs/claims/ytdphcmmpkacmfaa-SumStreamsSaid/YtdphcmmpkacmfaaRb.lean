/-
  Layer 5: the document's answer, walked: Join and the stream.
-/
import Derived.Test.YtdphcmmpkacmfaaRa
import Derived.Test.YtdphcmmpkacmfaaWd
namespace Go.Proofs.Ytdphcmmpkacmfaa
open Go.RowKit Go.K
set_option linter.unusedVariables false
attribute [local go_sem] xor_U64 and_U64 or_U64 wrap_U64 wrap_U8 ofInt_add64 ofInt_mul64 ofInt_neg64 shr_U64_1 shr_U64_4 U64_ofInt U8_ofInt64 u64_signed u64_compl

theorem rjoin_neg (a b : BitVec 64) (n : Int) (w : World) (h : n < 0) :
    Calls Try.prog 24 #[.int .u64 (U64 a), .int .u64 (U64 b), .int .i64 n] w fun e w' => e = .returned (.tuple #[.int .u64 0, .int .i64 2]) ∧ w = w' := by
  go_enter Try.func24, Try.ntmps24
  go_wp2
  go_ret2
  exact ⟨rfl, rfl⟩
theorem rjoin_any (a b : BitVec 64) (n : Nat) (w : World) (h : n < 9223372036854775808) :
    Calls Try.prog 24 #[.int .u64 (U64 a), .int .u64 (U64 b), .int .i64 n] w fun e w' => e = .returned (.tuple #[.int .u64 (U64 (joinRest a M0 n ^^^ b)), .int .i64 0]) ∧ Below w.heap.size w w' := by
  have hn0 : decide ((n : Int) < 0) = false := by simp
  go_enter Try.func24, Try.ntmps24
  go_wp2_with fail
  refine (rzeros_any a n _ h).mono ?_
  rintro e w1 ⟨rfl, hb⟩
  go_wp2
  go_ret2
  exact ⟨rfl, hb⟩
theorem rnew_any (w : World) : Calls Try.prog 26 #[] w fun e w' => e = .returned (.pointer (some ⟨w.heap.size, 0, none⟩)) ∧ w' = w.alloc (.cells (strRow 0#64 0) 73) := by
  go_enter Try.func26, Try.ntmps26
  go_wp2
  go_ret
  exact ⟨rfl, rfl⟩
theorem rssum_nil (w : World) : Calls Try.prog 41 #[.pointer none] w fun e w' => e = .returned (.int .u64 0) ∧ w = w' := by
  have hb : ∀ w, (binOp .eql 48 (.pointer none) (.pointer none)).run Try.prog w = .ok (.bool true) w := fun _ => by kernel_rfl
  go_enter Try.func41, Try.ntmps41
  go_wp2
  go_ret
  exact ⟨rfl, rfl⟩
theorem rssum_any (g : Nat) (s : BitVec 64) (n : Nat) (w : World) (hg : w.heap[g]? = some (.cells (strRow s n) 73)) :
    Calls Try.prog 41 #[.pointer (some ⟨g, 0, none⟩)] w fun e w' => e = .returned (.int .u64 (U64 s)) ∧ w = w' := by
  have h0 : w.cell? ⟨g, 0, none⟩ = some (.int .u64 (U64 s)) := by rw [cell_of_row _ _ _ _ _ _ hg]; rfl
  clear hg
  go_enter Try.func41, Try.ntmps41
  go_wp2
  go_ret
  exact ⟨rfl, rfl⟩
theorem rslen_nil (w : World) : Calls Try.prog 42 #[.pointer none] w fun e w' => e = .returned (.int .i64 0) ∧ w = w' := by
  have hb : ∀ w, (binOp .eql 48 (.pointer none) (.pointer none)).run Try.prog w = .ok (.bool true) w := fun _ => by kernel_rfl
  go_enter Try.func42, Try.ntmps42
  go_wp2
  go_ret
  exact ⟨rfl, rfl⟩
theorem rslen_any (g : Nat) (s : BitVec 64) (n : Nat) (w : World) (hg : w.heap[g]? = some (.cells (strRow s n) 73)) :
    Calls Try.prog 42 #[.pointer (some ⟨g, 0, none⟩)] w fun e w' => e = .returned (.int .i64 n) ∧ w = w' := by
  have h0 : w.cell? ⟨g, 1, none⟩ = some (.int .i64 n) := by rw [cell_of_row _ _ _ _ _ _ hg]; rfl
  clear hg
  go_enter Try.func42, Try.ntmps42
  go_wp2
  go_ret
  exact ⟨rfl, rfl⟩
theorem rwrite_nil (a : Option Addr) (len cap : Nat) (w : World) : Calls Try.prog 27 #[.pointer none, .slice a len cap] w fun e w' => e = .returned (.int .i64 1) ∧ w = w' := by
  have hb : ∀ w, (binOp .eql 48 (.pointer none) (.pointer none)).run Try.prog w = .ok (.bool true) w := fun _ => by kernel_rfl
  go_enter Try.func27, Try.ntmps27
  go_wp2
  go_ret
  exact ⟨rfl, rfl⟩
theorem rwrite_over (g : Nat) (s : BitVec 64) (n : Nat) (a : Option Addr) (len cap : Nat) (w : World) (hg : w.heap[g]? = some (.cells (strRow s n) 73)) (hn : n ≤ 9223372036854775807) (h : 9223372036854775807 < len + n) :
    Calls Try.prog 27 #[.pointer (some ⟨g, 0, none⟩), .slice a len cap] w fun e w' => e = .returned (.int .i64 2) ∧ w = w' := by
  have h0 : w.cell? ⟨g, 1, none⟩ = some (.int .i64 n) := by rw [cell_of_row _ _ _ _ _ _ hg]; rfl
  have ht : (9223372036854775807 : Int) - (n : Int) < (len : Int) := by omega
  clear hg
  go_enter Try.func27, Try.ntmps27
  go_wp2
  go_ret
  exact ⟨rfl, rfl⟩
theorem rwrite_any (g : Nat) (s : BitVec 64) (n : Nat) (a : Option Addr) (cap : Nat) (l : List (BitVec 8)) (w : World) (hg : w.heap[g]? = some (.cells (strRow s n) 73))
    (hl : l.length ≤ maxLen) (hn : n + l.length ≤ 9223372036854775807) (hs : Sl w a (vBs l)) :
    Calls Try.prog 27 #[.pointer (some ⟨g, 0, none⟩), .slice a l.length cap] w fun e w' => e = .returned (.int .i64 0) ∧ w.grownBy w' (some g) ∧ w'.heap[g]? = some (.cells (strRow (updB s l) (n + l.length)) 73) := by
  have h0 : w.cell? ⟨g, 0, none⟩ = some (.int .u64 (U64 s)) := by rw [cell_of_row _ _ _ _ _ _ hg]; rfl
  have h1 : w.cell? ⟨g, 1, none⟩ = some (.int .i64 n) := by rw [cell_of_row _ _ _ _ _ _ hg]; rfl
  have hf0 := frozen_of_row _ _ 0 _ _ hg
  have hf1 := frozen_of_row _ _ 1 _ _ hg
  have HG1 := Lib.hid hg
  have HS := Lib.hid hs
  clear hg hs
  have ht : ¬ (9223372036854775807 : Int) - (n : Int) < (l.length : Int) := by omega
  go_enter Try.func27, Try.ntmps27
  go_wp2_with fail
  refine (rupdate_any s a cap l _ hl HS.out).mono ?_
  rintro e w1 ⟨rfl, rfl⟩
  go_wp2
  go_ret
  refine ⟨rfl, grown_set (grown_set (grown_below (Below.refl _ _) _) _ _) _ _, ?_⟩
  rw [heap_setCell_same _ _ _ _ _ _ (heap_setCell_same _ _ _ _ _ _ HG1.out), strRow_set0]
  show some (Obj.cells ((strRow (updB s l) n).setIfInBounds 1 (.int .i64 ((n : Int) + (l.length : Int)))) 73 (0, 0)) = _
  rw [show (n : Int) + (l.length : Int) = ((n + l.length : Nat) : Int) from rfl, strRow_set1]
theorem rput_nil (s : BitVec 64) (n : Int) (w : World) : Calls Try.prog 29 #[.pointer none, .int .u64 (U64 s), .int .i64 n] w fun e w' => e = .returned (.int .i64 1) ∧ w = w' := by
  have hb : ∀ w, (binOp .eql 48 (.pointer none) (.pointer none)).run Try.prog w = .ok (.bool true) w := fun _ => by kernel_rfl
  go_enter Try.func29, Try.ntmps29
  go_wp2
  go_ret
  exact ⟨rfl, rfl⟩
theorem rput_neg (g : Nat) (s : BitVec 64) (n : Nat) (d : BitVec 64) (m : Int) (w : World) (hg : w.heap[g]? = some (.cells (strRow s n) 73)) (hm : m < 0) :
    Calls Try.prog 29 #[.pointer (some ⟨g, 0, none⟩), .int .u64 (U64 d), .int .i64 m] w fun e w' => e = .returned (.int .i64 2) ∧ w = w' := by
  have ht : decide (m < 0) = true := by simp; omega
  clear hg
  go_enter Try.func29, Try.ntmps29
  go_wp2
  go_ret
  exact ⟨rfl, rfl⟩
theorem rput_over (g : Nat) (s : BitVec 64) (n : Nat) (d : BitVec 64) (m : Nat) (w : World) (hg : w.heap[g]? = some (.cells (strRow s n) 73)) (hn : n ≤ 9223372036854775807) (hm : 9223372036854775807 < n + m) :
    Calls Try.prog 29 #[.pointer (some ⟨g, 0, none⟩), .int .u64 (U64 d), .int .i64 m] w fun e w' => e = .returned (.int .i64 2) ∧ w = w' := by
  have h1 : w.cell? ⟨g, 1, none⟩ = some (.int .i64 n) := by rw [cell_of_row _ _ _ _ _ _ hg]; rfl
  have ht : decide ((m : Int) < 0) = false := by simp
  have ht2 : (9223372036854775807 : Int) - (n : Int) < (m : Int) := by omega
  clear hg
  go_enter Try.func29, Try.ntmps29
  go_wp2
  go_ret
  exact ⟨rfl, rfl⟩
theorem rput_any (g : Nat) (s : BitVec 64) (n : Nat) (d : BitVec 64) (m : Nat) (w : World) (hg : w.heap[g]? = some (.cells (strRow s n) 73)) (hm : n + m ≤ 9223372036854775807) :
    Calls Try.prog 29 #[.pointer (some ⟨g, 0, none⟩), .int .u64 (U64 d), .int .i64 m] w fun e w' => e = .returned (.int .i64 0) ∧ w.grownBy w' (some g) ∧ w'.heap[g]? = some (.cells (strRow (joinRest s M0 m ^^^ d) (n + m)) 73) := by
  have h0 : w.cell? ⟨g, 0, none⟩ = some (.int .u64 (U64 s)) := by rw [cell_of_row _ _ _ _ _ _ hg]; rfl
  have h1 : w.cell? ⟨g, 1, none⟩ = some (.int .i64 n) := by rw [cell_of_row _ _ _ _ _ _ hg]; rfl
  have HG := Lib.hid hg
  clear hg
  have hz := (Array.getElem?_eq_some_iff.1 HG.out).1
  have ht : decide ((m : Int) < 0) = false := by simp
  have ht2 : ¬ (9223372036854775807 : Int) - (n : Int) < (m : Int) := by omega
  go_enter Try.func29, Try.ntmps29
  go_wp2_with fail
  refine (rzeros_any s m _ (by omega)).mono ?_
  rintro e w1 ⟨rfl, hb⟩
  have hg1 : w1.heap[g]? = some (.cells (strRow s n) 73) := by rw [hb.block g hz]; exact HG.out
  have HB := Lib.hid hb
  have HG1 := Lib.hid hg1
  clear h0 h1 hb
  have h0 : w1.cell? ⟨g, 0, none⟩ = some (.int .u64 (U64 s)) := by rw [cell_of_row _ _ _ _ _ _ hg1]; rfl
  have h1 : w1.cell? ⟨g, 1, none⟩ = some (.int .i64 n) := by rw [cell_of_row _ _ _ _ _ _ hg1]; rfl
  have hf0 := frozen_of_row _ _ 0 _ _ hg1
  have hf1 := frozen_of_row _ _ 1 _ _ hg1
  clear hg1 hz
  go_wp2
  go_ret
  refine ⟨rfl, grown_set (grown_set (grown_below HB.out _) _ _) _ _, ?_⟩
  rw [heap_setCell_same _ _ _ _ _ _ (heap_setCell_same _ _ _ _ _ _ HG1.out), strRow_set0]
  show some (Obj.cells ((strRow (joinRest s M0 m ^^^ d) n).setIfInBounds 1 (.int .i64 ((n : Int) + (m : Int)))) 73 (0, 0)) = _
  rw [show (n : Int) + (m : Int) = ((n + m : Nat) : Int) from rfl, strRow_set1]
end Go.Proofs.Ytdphcmmpkacmfaa
