/-
  Layer 5: the stream's Write and Put, as the program has them.
-/
import Derived.Test.YtdphcmmpkacmfaaWj
import Derived.Test.YtdphcmmpkacmfaaWc
namespace Go.Proofs.Ytdphcmmpkacmfaa
open Go.RowKit Go.K
set_option linter.unusedVariables false
attribute [local go_sem] xor_U64 and_U64 or_U64 wrap_U64 wrap_U8 ofInt_add64 ofInt_mul64 ofInt_neg64 shr_U64_1 shr_U64_4 U64_ofInt U8_ofInt64 u64_signed u64_compl

theorem strRow_set0 (s : BitVec 64) (n : Nat) (x : BitVec 64) : (strRow s n).setIfInBounds 0 (.int .u64 (U64 x)) = strRow x n := rfl
theorem strRow_set1 (s : BitVec 64) (n : Nat) (m : Nat) : (strRow s n).setIfInBounds 1 (.int .i64 m) = strRow s m := rfl
theorem write_any (g : Nat) (s : BitVec 64) (n : Nat) (a : Option Addr) (cap : Nat) (l : List (BitVec 8)) (w : World) (hg : w.heap[g]? = some (.cells (strRow s n) 71))
    (hl : l.length ≤ maxLen) (hn : n + l.length ≤ 9223372036854775807) (hs : Sl w a (vBs l)) :
    Calls Try.prog 28 #[.pointer (some ⟨g, 0, none⟩), .slice a l.length cap] w fun e w' => e = .returned (.int .i64 0) ∧ w.grownBy w' (some g) ∧ w'.heap[g]? = some (.cells (strRow (updB s l) (n + l.length)) 71) := by
  have h0 : w.cell? ⟨g, 0, none⟩ = some (.int .u64 (U64 s)) := by rw [cell_of_row _ _ _ _ _ _ hg]; rfl
  have h1 : w.cell? ⟨g, 1, none⟩ = some (.int .i64 n) := by rw [cell_of_row _ _ _ _ _ _ hg]; rfl
  have HG := Lib.hid hg
  have HS := Lib.hid hs
  clear hg hs
  have hz := (Array.getElem?_eq_some_iff.1 HG.out).1
  have ht : ¬ (9223372036854775807 : Int) - (n : Int) < (l.length : Int) := by omega
  go_enter Try.func28, Try.ntmps28
  go_wp2_with fail
  refine (update_any s a cap l _ hl HS.out).mono ?_
  rintro e w1 ⟨rfl, hb⟩
  have hg1 : w1.heap[g]? = some (.cells (strRow s n) 71) := by rw [hb.block g hz]; exact HG.out
  have HB := Lib.hid hb
  have HG1 := Lib.hid hg1
  clear h0 h1 hb
  have h0 : w1.cell? ⟨g, 0, none⟩ = some (.int .u64 (U64 s)) := by rw [cell_of_row _ _ _ _ _ _ hg1]; rfl
  have h1 : w1.cell? ⟨g, 1, none⟩ = some (.int .i64 n) := by rw [cell_of_row _ _ _ _ _ _ hg1]; rfl
  have hf0 := frozen_of_row _ _ 0 _ _ hg1
  have hf1 := frozen_of_row _ _ 1 _ _ hg1
  clear hg1 hz
  go_wp2
  go_ret
  refine ⟨rfl, grown_set (grown_set (grown_below HB.out _) _ _) _ _, ?_⟩
  rw [heap_setCell_same _ _ _ _ _ _ (heap_setCell_same _ _ _ _ _ _ HG1.out), strRow_set0]
  show some (Obj.cells ((strRow (updB s l) n).setIfInBounds 1 (.int .i64 ((n : Int) + (l.length : Int)))) 71 (0, 0)) = _
  rw [show (n : Int) + (l.length : Int) = ((n + l.length : Nat) : Int) from rfl, strRow_set1]
theorem put_nil (s : BitVec 64) (n : Int) (w : World) : Calls Try.prog 30 #[.pointer none, .int .u64 (U64 s), .int .i64 n] w fun e w' => e = .returned (.int .i64 1) ∧ w = w' := by
  have hb : ∀ w, (binOp .eql 45 (.pointer none) (.pointer none)).run Try.prog w = .ok (.bool true) w := fun _ => by kernel_rfl
  go_enter Try.func30, Try.ntmps30
  go_wp2
  go_ret
  exact ⟨rfl, rfl⟩
theorem put_neg (g : Nat) (s : BitVec 64) (n : Nat) (d : BitVec 64) (m : Int) (w : World) (hg : w.heap[g]? = some (.cells (strRow s n) 71)) (hm : m < 0) :
    Calls Try.prog 30 #[.pointer (some ⟨g, 0, none⟩), .int .u64 (U64 d), .int .i64 m] w fun e w' => e = .returned (.int .i64 2) ∧ w = w' := by
  have ht : decide (m < 0) = true := by simp; omega
  clear hg
  go_enter Try.func30, Try.ntmps30
  go_wp2
  go_ret
  exact ⟨rfl, rfl⟩
theorem put_over (g : Nat) (s : BitVec 64) (n : Nat) (d : BitVec 64) (m : Nat) (w : World) (hg : w.heap[g]? = some (.cells (strRow s n) 71)) (hn : n ≤ 9223372036854775807) (hm : 9223372036854775807 < n + m) :
    Calls Try.prog 30 #[.pointer (some ⟨g, 0, none⟩), .int .u64 (U64 d), .int .i64 m] w fun e w' => e = .returned (.int .i64 2) ∧ w = w' := by
  have h1 : w.cell? ⟨g, 1, none⟩ = some (.int .i64 n) := by rw [cell_of_row _ _ _ _ _ _ hg]; rfl
  have ht : decide ((m : Int) < 0) = false := by simp
  have ht2 : (9223372036854775807 : Int) - (n : Int) < (m : Int) := by omega
  clear hg
  go_enter Try.func30, Try.ntmps30
  go_wp2
  go_ret
  exact ⟨rfl, rfl⟩
theorem put_any (g : Nat) (s : BitVec 64) (n : Nat) (d : BitVec 64) (m : Nat) (w : World) (hg : w.heap[g]? = some (.cells (strRow s n) 71)) (hm : n + m ≤ 9223372036854775807) :
    Calls Try.prog 30 #[.pointer (some ⟨g, 0, none⟩), .int .u64 (U64 d), .int .i64 m] w fun e w' => e = .returned (.int .i64 0) ∧ w.grownBy w' (some g) ∧ w'.heap[g]? = some (.cells (strRow (joinRest s M0 m ^^^ d) (n + m)) 71) := by
  have h0 : w.cell? ⟨g, 0, none⟩ = some (.int .u64 (U64 s)) := by rw [cell_of_row _ _ _ _ _ _ hg]; rfl
  have h1 : w.cell? ⟨g, 1, none⟩ = some (.int .i64 n) := by rw [cell_of_row _ _ _ _ _ _ hg]; rfl
  have HG := Lib.hid hg
  clear hg
  have hz := (Array.getElem?_eq_some_iff.1 HG.out).1
  have ht : decide ((m : Int) < 0) = false := by simp
  have ht2 : ¬ (9223372036854775807 : Int) - (n : Int) < (m : Int) := by omega
  go_enter Try.func30, Try.ntmps30
  go_wp2_with fail
  refine (join_any s d m _ (by omega)).mono ?_
  rintro e w1 ⟨rfl, hb⟩
  have hg1 : w1.heap[g]? = some (.cells (strRow s n) 71) := by rw [hb.block g hz]; exact HG.out
  have HB := Lib.hid hb
  have HG1 := Lib.hid hg1
  clear h0 h1 hb
  have h0 : w1.cell? ⟨g, 0, none⟩ = some (.int .u64 (U64 s)) := by rw [cell_of_row _ _ _ _ _ _ hg1]; rfl
  have h1 : w1.cell? ⟨g, 1, none⟩ = some (.int .i64 n) := by rw [cell_of_row _ _ _ _ _ _ hg1]; rfl
  have hf0 := frozen_of_row _ _ 0 _ _ hg1
  have hf1 := frozen_of_row _ _ 1 _ _ hg1
  clear hg1 hz
  go_wp2
  go_ret
  refine ⟨rfl, grown_set (grown_set (grown_below HB.out _) _ _) _ _, ?_⟩
  rw [heap_setCell_same _ _ _ _ _ _ (heap_setCell_same _ _ _ _ _ _ HG1.out), strRow_set0]
  show some (Obj.cells ((strRow (joinRest s M0 m ^^^ d) n).setIfInBounds 1 (.int .i64 ((n : Int) + (m : Int)))) 71 (0, 0)) = _
  rw [show (n : Int) + (m : Int) = ((n + m : Nat) : Int) from rfl, strRow_set1]
end Go.Proofs.Ytdphcmmpkacmfaa
