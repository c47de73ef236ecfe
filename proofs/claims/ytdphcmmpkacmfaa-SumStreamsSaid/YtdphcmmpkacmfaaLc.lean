/-
  Layer 5: the contracts at slices whose length is written otherwise; pieces of a slice.
-/
import Derived.Test.YtdphcmmpkacmfaaLb
import Derived.Test.YtdphcmmpkacmfaaPa
namespace Go.Proofs.Ytdphcmmpkacmfaa
open Go.RowKit Go.K
set_option linter.unusedVariables false

theorem sum_at (a : Option Addr) (n cap : Nat) (l : List (BitVec 8)) (w : World) (hn : l.length = n) (hl : n ≤ maxLen) (hs : Sl w a (vBs l)) :
    Calls Try.prog 16 #[.slice a n cap] w fun e w' => e = .returned (.int .u64 (U64 (updB 0#64 l))) ∧ Below w.heap.size w w' := by
  subst hn; exact sum_any a cap l w hl hs
theorem update_at (r : BitVec 64) (a : Option Addr) (n cap : Nat) (l : List (BitVec 8)) (w : World) (hn : l.length = n) (hl : n ≤ maxLen) (hs : Sl w a (vBs l)) :
    Calls Try.prog 19 #[.int .u64 (U64 r), .slice a n cap] w fun e w' => e = .returned (.int .u64 (U64 (updB r l))) ∧ Below w.heap.size w w' := by
  subst hn; exact update_any r a cap l w hl hs
theorem write_at (g : Nat) (s : BitVec 64) (n : Nat) (a : Option Addr) (m cap : Nat) (l : List (BitVec 8)) (w : World) (hg : w.heap[g]? = some (.cells (strRow s n) 71)) (hm : l.length = m)
    (hl : m ≤ maxLen) (hn : n + m ≤ 9223372036854775807) (hs : Sl w a (vBs l)) :
    Calls Try.prog 28 #[.pointer (some ⟨g, 0, none⟩), .slice a m cap] w fun e w' => e = .returned (.int .i64 0) ∧ w.grownBy w' (some g) ∧ w'.heap[g]? = some (.cells (strRow (updB s l) (n + m)) 71) := by
  subst hm; exact write_any g s n a cap l w hg hl hn hs
/-- The address of a slice's piece, as the model has it. -/
theorem sl_take {w : World} {a : Option Addr} {l : List (BitVec 8)} (h : Sl w a (vBs l)) (n : Nat) : Sl w a (vBs (l.take n)) := by
  have : vBs l = vBs (l.take n) ++ vBs (l.drop n) := by rw [← vBs_append, List.take_append_drop]
  rw [this] at h
  exact Sl.pre h
theorem updB_append (s : BitVec 64) (a b : List (BitVec 8)) : updB s (a ++ b) = updB (updB s a) b := by
  unfold updB
  rw [takeL_append]; simp
theorem join_updB (x : BitVec 64) (b : List (BitVec 8)) : joinRest x M0 b.length ^^^ updB 0#64 b = updB x b := by
  rw [join_plain]
  unfold updB
  have h : ~~~ x = ~~~ 0#64 ^^^ x := by
    rw [show ~~~ 0#64 = BitVec.allOnes 64 from by decide, BitVec.allOnes_xor]
  rw [h, takeL_xor]
  generalize takeL (~~~ 0#64) b = y
  generalize iterB (8 * b.length) x = z
  apply BitVec.eq_of_getLsbD_eq; intro i hi
  rw [BitVec.getLsbD_xor, BitVec.getLsbD_not, BitVec.getLsbD_not, BitVec.getLsbD_xor]
  cases z.getLsbD i <;> cases y.getLsbD i <;> simp [hi]
theorem update_i (x : Int) (r : BitVec 64) (hx : x = U64 r) (a : Option Addr) (n cap : Nat) (l : List (BitVec 8)) (w : World) (hn : l.length = n) (hl : n ≤ maxLen) (hs : Sl w a (vBs l)) :
    Calls Try.prog 19 #[.int .u64 x, .slice a n cap] w fun e w' => e = .returned (.int .u64 (U64 (updB r l))) ∧ Below w.heap.size w w' := by
  subst hx; exact update_at r a n cap l w hn hl hs
theorem join_i (x y : Int) (a b : BitVec 64) (hx : x = U64 a) (hy : y = U64 b) (z : Int) (n : Nat) (hz : z = n) (w : World) (h : n < 9223372036854775808) :
    Calls Try.prog 12 #[.int .u64 x, .int .u64 y, .int .i64 z] w fun e w' => e = .returned (.tuple #[.int .u64 (U64 (joinRest a M0 n ^^^ b)), .int .i64 0]) ∧ Below w.heap.size w w' := by
  subst hx hy hz; exact join_any a b n w h
theorem join_negi (x y : Int) (a b : BitVec 64) (hx : x = U64 a) (hy : y = U64 b) (z : Int) (w : World) (h : z < 0) :
    Calls Try.prog 12 #[.int .u64 x, .int .u64 y, .int .i64 z] w fun e w' => e = .returned (.tuple #[.int .u64 0, .int .i64 2]) ∧ w = w' := by
  subst hx hy; exact join_neg a b z w h
theorem forge_at (r : Int) (x : BitVec 64) (hr : r = U64 x) (a : Option Addr) (n cap : Nat) (l : List (BitVec 8)) (w : World) (hn : l.length = n) (hl : n ≤ maxLen) (hs : Sl w a (vBs l)) :
    Calls Try.prog 21 #[.slice a n cap, .int .u64 r] w fun e w' => e = .returned (.agg (outRow (forgeX l x) 8)) ∧ Below w.heap.size w w' := by
  subst hr hn; exact forge_any x a cap l w hl hs
theorem put_i (g : Nat) (s : BitVec 64) (n : Nat) (x : Int) (d : BitVec 64) (hx : x = U64 d) (z : Int) (m : Nat) (hz : z = m) (w : World) (hg : w.heap[g]? = some (.cells (strRow s n) 71)) (hm : n + m ≤ 9223372036854775807) :
    Calls Try.prog 30 #[.pointer (some ⟨g, 0, none⟩), .int .u64 x, .int .i64 z] w fun e w' => e = .returned (.int .i64 0) ∧ w.grownBy w' (some g) ∧ w'.heap[g]? = some (.cells (strRow (joinRest s M0 m ^^^ d) (n + m)) 71) := by
  subst hx hz; exact put_any g s n d m w hg hm
theorem put_overi (g : Nat) (s : BitVec 64) (n : Nat) (x : Int) (d : BitVec 64) (hx : x = U64 d) (z : Int) (m : Nat) (hz : z = m) (w : World) (hg : w.heap[g]? = some (.cells (strRow s n) 71)) (hn : n ≤ 9223372036854775807) (hm : 9223372036854775807 < n + m) :
    Calls Try.prog 30 #[.pointer (some ⟨g, 0, none⟩), .int .u64 x, .int .i64 z] w fun e w' => e = .returned (.int .i64 2) ∧ w = w' := by
  subst hx hz; exact put_over g s n d m w hg hn hm
theorem put_negi (g : Nat) (s : BitVec 64) (n : Nat) (x : Int) (d : BitVec 64) (hx : x = U64 d) (m : Int) (w : World) (hg : w.heap[g]? = some (.cells (strRow s n) 71)) (hm : m < 0) :
    Calls Try.prog 30 #[.pointer (some ⟨g, 0, none⟩), .int .u64 x, .int .i64 m] w fun e w' => e = .returned (.int .i64 2) ∧ w = w' := by
  subst hx; exact put_neg g s n d m w hg hm
theorem put_nili (x : Int) (d : BitVec 64) (hx : x = U64 d) (n : Int) (w : World) : Calls Try.prog 30 #[.pointer none, .int .u64 x, .int .i64 n] w fun e w' => e = .returned (.int .i64 1) ∧ w = w' := by
  subst hx; exact put_nil d n w
theorem bytes1 : (Try.prog.info? 5).map (·.size) = some 1 := by kernel_rfl
end Go.Proofs.Ytdphcmmpkacmfaa
