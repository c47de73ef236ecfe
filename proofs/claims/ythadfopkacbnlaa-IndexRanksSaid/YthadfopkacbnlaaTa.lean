/-
  Layer 18: an index as it lies; its small functions.
-/
import Derived.Test.YthadfopkacbnlaaRPc
import Derived.Test.YthadfopkacbnlaaGen
import Derived.Deep.RegionHeld3
import Derived.Deep.DeepCutAuto
import Derived.Deep.CutBlock
import Derived.StillTailTactics
namespace Go.Proofs.Ythadfopkacbnlaa
open Go.RowKit Go.K
set_option linter.unusedVariables false
set_option linter.unusedSimpArgs false
/-- A block of n cells of a kind, of which some are known. -/
def Cl (W : World) (g : Nat) (t : TypeId) (n : Nat) (f : Nat → Option Value) : Prop := ∃ cur, W.heap[g]? = some (.cells cur t (0, 0)) ∧ cur.size = n ∧ ∀ k v, f k = some v → cur[k]? = some v
section
variable {W W' : World} {g n : Nat} {t : TypeId} {f f' : Nat → Option Value}
theorem Cl.cell (h : Cl W g t n f) {k : Nat} {v : Value} (hk : f k = some v) : W.cell? ⟨g, k, none⟩ = some v := by
  obtain ⟨cur, hr, _, hf⟩ := h
  rw [cell_of_row _ _ _ _ _ _ hr]; exact hf k v hk
theorem Cl.frozen (h : Cl W g t n f) (k : Nat) : W.frozen? ⟨g, k, none⟩ = false := by
  obtain ⟨cur, hr, _, _⟩ := h; exact frozen_of_row _ _ k _ _ hr
theorem Cl.ex (h : Cl W g t n f) {k : Nat} (hk : k < n) : ∃ u, W.cell? ⟨g, k, none⟩ = some u := by
  obtain ⟨cur, hr, hs, _⟩ := h
  exact ⟨cur[k]'(by omega), by rw [cell_of_row _ _ _ _ _ _ hr, Array.getElem?_eq_getElem (by omega)]⟩
theorem Cl.lt (h : Cl W g t n f) : g < W.heap.size := by obtain ⟨cur, hr, _⟩ := h; exact lt_row hr
theorem Cl.kept (h : Cl W g t n f) (hb : Below W.heap.size W W') : Cl W' g t n f := by
  obtain ⟨cur, hr, hs, hf⟩ := h; exact ⟨cur, row_kept hr hb, hs, hf⟩
theorem Cl.mono (h : Cl W g t n f) (hf : ∀ k v, f' k = some v → f k = some v) : Cl W g t n f' := by
  obtain ⟨cur, hr, hs, h1⟩ := h; exact ⟨cur, hr, hs, fun k v e => h1 k v (hf k v e)⟩
theorem Cl.setC (h : Cl W g t n f) {k : Nat} (hk : k < n) (v : Value) : Cl (W.setCell ⟨g, k, none⟩ v) g t n (fun j => if j = k then some v else f j) := by
  obtain ⟨cur, hr, hs, hf⟩ := h
  refine ⟨cur.setIfInBounds k v, heap_setCell_same _ _ k _ _ v hr, by rw [Array.size_setIfInBounds]; exact hs, fun j u e => ?_⟩
  rw [Array.getElem?_setIfInBounds]
  by_cases c : j = k
  · subst c
    have e : (if j = j then some v else f j) = some u := e
    rw [if_pos rfl] at e
    rw [if_pos rfl, if_pos (by omega)]; exact e
  · have e : (if j = k then some v else f j) = some u := e
    rw [if_neg c] at e
    rw [if_neg (fun e => c e.symm)]; exact hf j u e
theorem Cl.other (h : Cl W g t n f) {b o : Nat} (hne : b ≠ g) (v : Value) : Cl (W.setCell ⟨b, o, none⟩ v) g t n f := by
  obtain ⟨cur, hr, hs, hf⟩ := h
  exact ⟨cur, by rw [heap_setCell_other _ _ _ _ (fun e => hne e.symm)]; exact hr, hs, hf⟩
end
theorem run_store_float {P : Program} {w : World} {a : Addr} {m : Mode} (k : FloatKind) (b : Nat) : (store a (.float k b) m).run P w = stored P w a (.float k b) m := run_store P w a _ m rfl
attribute [local go_sem] run_store_float
/-- A kind's line. -/
structure Ln where
  deals : Int
  avg : Nat
  spr : Nat
  low : Int
  high : Int
  day : Nat → Nat
  has : Nat → Bool
def Ln.cell (x : Ln) (j : Nat) : Value := if j = 0 then .int .i64 x.deals else if j = 1 then .float .f32 x.avg else if j = 2 then .float .f32 x.spr else if j = 3 then .int .u64 x.low else if j = 4 then .int .u64 x.high else if j < 13 then .float .f32 (x.day (j - 5)) else .bool (x.has (j - 13))
def lnZ : Ln := ⟨0, 0, 0, 0, 0, fun _ => 0, fun _ => false⟩
def ixF (L : Nat → Ln) (k : Nat) : Option Value := if k < 336 then some ((L (k / 21)).cell (k % 21)) else none
/-- An index in memory: line by line. -/
def Ix (W : World) (g : Nat) (L : Nat → Ln) : Prop := Cl W g 73 336 (ixF L)
section
variable {W W' : World} {g : Nat} {L L' : Nat → Ln}
theorem Ix.cell (h : Ix W g L) {k j : Nat} (hk : k < 16) (hj : j < 21) : W.cell? ⟨g, k * 21 + j, none⟩ = some ((L k).cell j) := by
  refine Cl.cell h ?_
  unfold ixF
  rw [if_pos (by omega), show (k * 21 + j) / 21 = k by omega, show (k * 21 + j) % 21 = j by omega]
theorem Ix.frozen (h : Ix W g L) (o : Nat) : W.frozen? ⟨g, o, none⟩ = false := Cl.frozen h o
theorem Ix.kept (h : Ix W g L) (hb : Below W.heap.size W W') : Ix W' g L := Cl.kept h hb
theorem Ix.lt (h : Ix W g L) : g < W.heap.size := Cl.lt h
theorem Ix.upd (h : Ix W g L) {k j : Nat} {v : Value} (hk : k < 16) (hj : j < 21) (h1 : (L' k).cell j = v) (h2 : ∀ q r, q < 16 → r < 21 → (q ≠ k ∨ r ≠ j) → (L' q).cell r = (L q).cell r) : Ix (W.setCell ⟨g, k * 21 + j, none⟩ v) g L' := by
  refine Cl.mono (Cl.setC h (k := k * 21 + j) (by omega) v) (fun m u e => ?_)
  unfold ixF at e ⊢
  split at e
  · rename_i hm
    by_cases c : m = k * 21 + j
    · subst c
      rw [show (k * 21 + j) / 21 = k by omega, show (k * 21 + j) % 21 = j by omega, h1] at e
      show (if k * 21 + j = k * 21 + j then some v else _) = some u
      rw [if_pos rfl]; exact e
    · show (if m = k * 21 + j then some v else if m < 336 then some ((L (m / 21)).cell (m % 21)) else none) = some u
      rw [if_neg c, if_pos hm, ← h2 (m / 21) (m % 21) (by omega) (by omega) (by omega)]; exact e
  · cases e
end
theorem Ix.five {W : World} {g : Nat} {L : Nat → Ln} (h : Ix W g L) {k : Nat} (hk : k < 16) : W.cell? ⟨g, k * 21, none⟩ = some (.int .i64 (L k).deals) ∧ W.cell? ⟨g, k * 21 + 1, none⟩ = some (.float .f32 (L k).avg) ∧ W.cell? ⟨g, k * 21 + 2, none⟩ = some (.float .f32 (L k).spr) ∧ W.cell? ⟨g, k * 21 + 3, none⟩ = some (.int .u64 (L k).low) ∧ W.cell? ⟨g, k * 21 + 4, none⟩ = some (.int .u64 (L k).high) := by
  have h0 := h.cell hk (j := 0) (by decide)
  have h1 := h.cell hk (j := 1) (by decide)
  have h2 := h.cell hk (j := 2) (by decide)
  have h3 := h.cell hk (j := 3) (by decide)
  have h4 := h.cell hk (j := 4) (by decide)
  rw [Nat.add_zero] at h0
  exact ⟨h0, h1, h2, h3, h4⟩
theorem Ix.dayc {W : World} {g : Nat} {L : Nat → Ln} (h : Ix W g L) {k : Nat} (hk : k < 16) {j : Nat} (hj : j < 8) : W.cell? ⟨g, k * 21 + 5 + j, none⟩ = some (.float .f32 ((L k).day j)) ∧ W.cell? ⟨g, k * 21 + 13 + j, none⟩ = some (.bool ((L k).has j)) := by
  have h1 := h.cell hk (j := 5 + j) (by omega)
  have h2 := h.cell hk (j := 13 + j) (by omega)
  rw [← Nat.add_assoc] at h1 h2
  have e1 : (L k).cell (5 + j) = .float .f32 ((L k).day j) := by
    unfold Ln.cell
    rw [if_neg (by omega), if_neg (by omega), if_neg (by omega), if_neg (by omega), if_neg (by omega), if_pos (by omega), Nat.add_sub_cancel_left]
  have e2 : (L k).cell (13 + j) = .bool ((L k).has j) := by
    unfold Ln.cell
    rw [if_neg (by omega), if_neg (by omega), if_neg (by omega), if_neg (by omega), if_neg (by omega), if_neg (by omega), Nat.add_sub_cancel_left]
  rw [e1] at h1
  rw [e2] at h2
  exact ⟨h1, h2⟩
def setL (L : Nat → Ln) (k : Nat) (x : Ln) (q : Nat) : Ln := if q = k then x else L q
theorem setL_same (L : Nat → Ln) (k : Nat) (x : Ln) : setL L k x k = x := if_pos rfl
theorem setL_other (L : Nat → Ln) (k : Nat) (x : Ln) {q : Nat} (h : q ≠ k) : setL L k x q = L q := if_neg h
theorem setL_two (L : Nat → Ln) (k : Nat) (x y : Ln) : setL (setL L k x) k y = setL L k y := by funext q; unfold setL; split <;> rfl
theorem setL_id (L : Nat → Ln) (k : Nat) : setL L k (L k) = L := by
  funext q; unfold setL
  by_cases h : q = k
  · rw [if_pos h, h]
  · rw [if_neg h]
/-- One cell of a line is written. -/
theorem Ix.put {W : World} {g : Nat} {L : Nat → Ln} (h : Ix W g L) {k j : Nat} {v : Value} {x : Ln} (hk : k < 16) (hj : j < 21) (h1 : x.cell j = v) (h2 : ∀ r, r < 21 → r ≠ j → x.cell r = (L k).cell r) : Ix (W.setCell ⟨g, k * 21 + j, none⟩ v) g (setL L k x) := by
  refine h.upd hk hj (by rw [setL_same]; exact h1) (fun q r hq hr hne => ?_)
  by_cases c : q = k
  · subst c
    rw [setL_same]
    exact h2 r hr (by omega)
  · rw [setL_other _ _ _ c]
theorem Ix.put2 {W : World} {g : Nat} {L : Nat → Ln} {k : Nat} {x : Ln} (h : Ix W g (setL L k x)) {j : Nat} {v : Value} {y : Ln} (hk : k < 16) (hj : j < 21) (h1 : y.cell j = v) (h2 : ∀ r, r < 21 → r ≠ j → y.cell r = x.cell r) : Ix (W.setCell ⟨g, k * 21 + j, none⟩ v) g (setL L k y) := by
  have h3 := h.put hk hj h1 (fun r hr hne => by rw [setL_same]; exact h2 r hr hne)
  rw [setL_two] at h3; exact h3
theorem Ln.c0 (x : Ln) (v : Int) {r : Nat} (h : r ≠ 0) : ({ x with deals := v } : Ln).cell r = x.cell r := by simp only [Ln.cell, h, if_false]
theorem Ln.c1 (x : Ln) (v : Nat) {r : Nat} (h : r ≠ 1) : ({ x with avg := v } : Ln).cell r = x.cell r := by simp only [Ln.cell, h, if_false]
theorem Ln.c2 (x : Ln) (v : Nat) {r : Nat} (h : r ≠ 2) : ({ x with spr := v } : Ln).cell r = x.cell r := by simp only [Ln.cell, h, if_false]
theorem Ln.c3 (x : Ln) (v : Int) {r : Nat} (h : r ≠ 3) : ({ x with low := v } : Ln).cell r = x.cell r := by simp only [Ln.cell, h, if_false]
theorem Ln.c4 (x : Ln) (v : Int) {r : Nat} (h : r ≠ 4) : ({ x with high := v } : Ln).cell r = x.cell r := by simp only [Ln.cell, h, if_false]
theorem Ln.c5 (x : Ln) (i v : Nat) (hi : i < 8) {r : Nat} (h : r ≠ 5 + i) : ({ x with day := fun j => if j = i then v else x.day j } : Ln).cell r = x.cell r := by
  simp only [Ln.cell]
  by_cases h13 : 5 ≤ r ∧ r < 13
  · rw [if_neg (show ¬ (r - 5 = i) by omega)]
  · repeat' split
    all_goals first | rfl | omega
theorem Ln.c13 (x : Ln) (i : Nat) (v : Bool) (hi : i < 8) {r : Nat} (h : r ≠ 13 + i) : ({ x with has := fun j => if j = i then v else x.has j } : Ln).cell r = x.cell r := by
  simp only [Ln.cell]
  by_cases h13 : 13 ≤ r
  · rw [if_neg (show ¬ (r - 13 = i) by omega)]
  · repeat' split
    all_goals first | rfl | omega
theorem num_any (x : Int) (w : World) : Calls Try.prog 16 #[.int .i64 x] w fun e w' => e = .returned (.int .i64 x) ∧ w = w' := by
  go_enter Try.func16, Try.ntmps16
  go_wp2
  go_ret
  exact ⟨rfl, rfl⟩
/-- A place among n. -/
def plc (x n : Int) : Int := if x.tmod n < 0 then x.tmod n + n else x.tmod n
theorem smooth_any (x y p : Nat) (w : World) : Calls Try.prog 30 #[.float .f32 x, .float .f32 y, .float .f32 p] w fun r w' => r = .returned (.float .f32 (n03.opW (Ieee.single.add x (n03.opW (Ieee.single.mul (n03.opW (Ieee.single.sub y x)) p))))) ∧ Qt w w' := by
  go_enter Try.func30, Try.ntmps30
  go_wp2_with fail
  refine (n03.psub_any y x w).mono ?_
  rintro r0 w1 ⟨rfl, h1⟩
  have H1 := Lib.hid h1
  clear h1
  go_wp2_with fail
  refine (n03.pmul_any _ p w1).mono ?_
  rintro r0 w2 ⟨rfl, h2⟩
  have H2 := Lib.hid h2
  clear h2
  go_wp2_with fail
  refine (n03.padd_any x _ w2).mono ?_
  rintro r0 w3 ⟨rfl, h3⟩
  have H3 := Lib.hid h3
  clear h3
  go_wp2
  go_ret
  exact ⟨rfl, (H1.out.trans H2.out).trans H3.out⟩
theorem of_any (g : Nat) (k : Nat) (w : World) (hk : k < 16) : Calls Try.prog 28 #[.pointer (some ⟨g, 0, none⟩), .int .i64 (k : Int)] w fun r w' => r = .returned (.tuple #[.pointer (some ⟨g, k * 21, none⟩), .int .i64 0]) ∧ w = w' := by
  have t0 : decide ((k : Int) < 0) = false := by simp
  have t1 : decide ((k : Int) ≥ 16) = false := by simp; omega
  have i1 : (k : Int) < 16 := by omega
  go_enter Try.func28, Try.ntmps28
  go_wp2
  go_ret2
  exact ⟨rfl, rfl⟩
end Go.Proofs.Ythadfopkacbnlaa
