/-
  Layer 5: the contracts at slices whose length is written otherwise; pieces of a slice.
-/
import Derived.Test.YtdphcmmpkacmfaaLb
import Derived.Test.YtdphcmmpkacmfaaPa
namespace Go.Proofs.Ytdphcmmpkacmfaa
open Go.RowKit Go.K
set_option linter.unusedVariables false

theorem sum_at (a : Option Addr) (n cap : Nat) (l : List (BitVec 8)) (w : World) (hn : l.length = n) (hl : n ≤ maxLen) (hs : Sl w a (vBs l)) :
    Calls Try.prog 16 #[.slice a n cap] w fun e w' => e = .returned (.int .u64 (U64 (updB 0#64 l))) ∧ Below w.heap.size w w' := by
  subst hn; exact sum_any a cap l w hl hs
theorem update_at (r : BitVec 64) (a : Option Addr) (n cap : Nat) (l : List (BitVec 8)) (w : World) (hn : l.length = n) (hl : n ≤ maxLen) (hs : Sl w a (vBs l)) :
    Calls Try.prog 19 #[.int .u64 (U64 r), .slice a n cap] w fun e w' => e = .returned (.int .u64 (U64 (updB r l))) ∧ Below w.heap.size w w' := by
  subst hn; exact update_any r a cap l w hl hs
theorem write_at (g : Nat) (s : BitVec 64) (n : Nat) (a : Option Addr) (m cap : Nat) (l : List (BitVec 8)) (w : World) (hg : w.heap[g]? = some (.cells (strRow s n) 71)) (hm : l.length = m)
    (hl : m ≤ maxLen) (hn : n + m ≤ 9223372036854775807) (hs : Sl w a (vBs l)) :
    Calls Try.prog 28 #[.pointer (some ⟨g, 0, none⟩), .slice a m cap] w fun e w' => e = .returned (.int .i64 0) ∧ w.grownBy w' (some g) ∧ w'.heap[g]? = some (.cells (strRow (updB s l) (n + m)) 71) := by
  subst hm; exact write_any g s n a cap l w hg hl hn hs
/-- The address of a slice's piece, as the model has it. -/
theorem sl_take {w : World} {a : Option Addr} {l : List (BitVec 8)} (h : Sl w a (vBs l)) (n : Nat) : Sl w a (vBs (l.take n)) := by
  have : vBs l = vBs (l.take n) ++ vBs (l.drop n) := by rw [← vBs_append, List.take_append_drop]
  rw [this] at h
  exact Sl.pre h
theorem updB_append (s : BitVec 64) (a b : List (BitVec 8)) : updB s (a ++ b) = updB (updB s a) b := by
  unfold updB
  rw [takeL_append]; simp
theorem join_updB (x : BitVec 64) (b : List (BitVec 8)) : joinRest x M0 b.length ^^^ updB 0#64 b = updB x b := by
  rw [join_plain]
  unfold updB
  have h : ~~~ x = ~~~ 0#64 ^^^ x := by
    rw [show ~~~ 0#64 = BitVec.allOnes 64 from by decide, BitVec.allOnes_xor]
  rw [h, takeL_xor]
  generalize takeL (~~~ 0#64) b = y
  generalize iterB (8 * b.length) x = z
  apply BitVec.eq_of_getLsbD_eq; intro i hi
  rw [BitVec.getLsbD_xor, BitVec.getLsbD_not, BitVec.getLsbD_not, BitVec.getLsbD_xor]
  cases z.getLsbD i <;> cases y.getLsbD i <;> simp [hi]
theorem bytes1 : (Try.prog.info? 5).map (·.size) = some 1 := by kernel_rfl
end Go.Proofs.Ytdphcmmpkacmfaa
