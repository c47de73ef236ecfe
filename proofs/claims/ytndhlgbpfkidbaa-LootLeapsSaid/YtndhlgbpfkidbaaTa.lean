/-
  Layer 6: a block of which some cells are known; fill's search for a row.
-/
import Derived.Test.YtndhlgbpfkidbaaWa
import Derived.Test.YtndhlgbpfkidbaaGen
import Derived.Deep.RegionHeld3
namespace Go.Proofs.Ytndhlgbpfkidbaa
open Go.RowKit Go.K
set_option linter.unusedVariables false
set_option linter.unusedSimpArgs false
/-- A block of n cells of a kind, of which some are known. -/
def Cl (W : World) (g : Nat) (t : TypeId) (n : Nat) (f : Nat → Option Value) : Prop := ∃ cur, W.heap[g]? = some (.cells cur t (0, 0)) ∧ cur.size = n ∧ ∀ k v, f k = some v → cur[k]? = some v
section
variable {W W' : World} {g n : Nat} {t : TypeId} {f f' : Nat → Option Value}
theorem Cl.cell (h : Cl W g t n f) {k : Nat} {v : Value} (hk : f k = some v) : W.cell? ⟨g, k, none⟩ = some v := by
  obtain ⟨cur, hr, _, hf⟩ := h
  rw [cell_of_row _ _ _ _ _ _ hr]; exact hf k v hk
theorem Cl.frozen (h : Cl W g t n f) (k : Nat) : W.frozen? ⟨g, k, none⟩ = false := by
  obtain ⟨cur, hr, _, _⟩ := h; exact frozen_of_row _ _ k _ _ hr
theorem Cl.ex (h : Cl W g t n f) {k : Nat} (hk : k < n) : ∃ u, W.cell? ⟨g, k, none⟩ = some u := by
  obtain ⟨cur, hr, hs, _⟩ := h
  exact ⟨cur[k]'(by omega), by rw [cell_of_row _ _ _ _ _ _ hr, Array.getElem?_eq_getElem (by omega)]⟩
theorem Cl.lt (h : Cl W g t n f) : g < W.heap.size := by obtain ⟨cur, hr, _⟩ := h; exact lt_row hr
theorem Cl.kept (h : Cl W g t n f) (hb : Below W.heap.size W W') : Cl W' g t n f := by
  obtain ⟨cur, hr, hs, hf⟩ := h; exact ⟨cur, row_kept hr hb, hs, hf⟩
theorem Cl.mono (h : Cl W g t n f) (hf : ∀ k v, f' k = some v → f k = some v) : Cl W g t n f' := by
  obtain ⟨cur, hr, hs, h1⟩ := h; exact ⟨cur, hr, hs, fun k v e => h1 k v (hf k v e)⟩
theorem Cl.setC (h : Cl W g t n f) {k : Nat} (hk : k < n) (v : Value) : Cl (W.setCell ⟨g, k, none⟩ v) g t n (fun j => if j = k then some v else f j) := by
  obtain ⟨cur, hr, hs, hf⟩ := h
  refine ⟨cur.setIfInBounds k v, heap_setCell_same _ _ k _ _ v hr, by rw [Array.size_setIfInBounds]; exact hs, fun j u e => ?_⟩
  rw [Array.getElem?_setIfInBounds]
  by_cases c : j = k
  · subst c
    have e : (if j = j then some v else f j) = some u := e
    rw [if_pos rfl] at e
    rw [if_pos rfl, if_pos (by omega)]; exact e
  · have e : (if j = k then some v else f j) = some u := e
    rw [if_neg c] at e
    rw [if_neg (fun e => c e.symm)]; exact hf j u e
theorem Cl.other (h : Cl W g t n f) {b o : Nat} (hne : b ≠ g) (v : Value) : Cl (W.setCell ⟨b, o, none⟩ v) g t n f := by
  obtain ⟨cur, hr, hs, hf⟩ := h
  exact ⟨cur, by rw [heap_setCell_other _ _ _ _ (fun e => hne e.symm)]; exact hr, hs, hf⟩
end
/-- The first row that has no slot of its own and is low, or is not. -/
def findV (low : Bool) (H : Nat → Bool) (R : Nat → Int) (wh : Int) : Int := if (!H 0 && (decide (R 0 < wh) == low)) = true then 0 else if (!H 1 && (decide (R 1 < wh) == low)) = true then 1 else -1
set_option maxRecDepth 100000 in
set_option maxHeartbeats 4000000 in
theorem find_any (low : Bool) (H : Nat → Bool) (R : Nat → Int) (wh : Int) (b hs rs g : Nat) (w : World) (hb : w.cell? ⟨b, 0, none⟩ = some (.pointer (some ⟨g, 0, none⟩))) (hn : w.cell? ⟨g, 0, none⟩ = some (.int .i64 2)) (hw : w.cell? ⟨g, 1, none⟩ = some (.int .i64 wh))
    (hH : ∀ k, k < 2 → w.cell? ⟨hs, k, none⟩ = some (.bool (H k))) (hR : ∀ k, k < 2 → w.cell? ⟨rs, k, none⟩ = some (.int .i64 (R k))) :
    Calls Try.prog 69 #[.bool low, .pointer (some ⟨b, 0, none⟩), .pointer (some ⟨hs, 0, none⟩), .pointer (some ⟨rs, 0, none⟩)] w fun r w' => r = .returned (.int .i64 (findV low H R wh)) ∧ Qt w w' := by
  have HB := Lib.hid hb
  have HN := Lib.hid hn
  have HW := Lib.hid hw
  have HH := Lib.hid hH
  have HR := Lib.hid hR
  clear hH hR hw
  go_enter Try.func69, Try.ntmps69
  go_wp2
  clear hb hn
  go_loopw [6, 11] (fun s6 i wr => ∃ j : Nat, j ≤ 2 ∧ i = .int .i64 j ∧ (∀ k, k < j → (!H k && (decide (R k < wh) == low)) = false) ∧ Qt w wr) (fun _ i _ => 2 - (intOf i).toNat)
  case atStart => exact ⟨0, by omega, rfl, fun k hk => absurd hk (Nat.not_lt_zero k), Qt.refl _⟩
  case round =>
    obtain ⟨j, hj, rfl, hno, hq⟩ := hrel
    have HQ := Lib.hid hq
    have HNO := Lib.hid hno
    have zb := below_cell (hq.below w.heap.size) HB.out
    have zw := below_cell (hq.below w.heap.size) HW.out
    clear hq hno
    by_cases hlt : j < 2
    · have t0 : decide ((j : Int) < 2) = true := by simp; omega
      have i1 : (j : Int) < 256 := by omega
      have zH := below_cell (HQ.out.below w.heap.size) (HH.out j hlt)
      have zR := below_cell (HQ.out.below w.heap.size) (HR.out j hlt)
      have HC := Lib.hid (show (!H j && (decide (R j < wh) == low)) = true → findV low H R wh = j from fun h => by
        unfold findV
        rcases (show j = 0 ∨ j = 1 by omega) with rfl | rfl
        · rw [if_pos h]; rfl
        · rw [if_neg (by rw [HNO.out 0 (by omega)]; decide), if_pos h]; rfl)
      have HS := Lib.hid (show (!H j && (decide (R j < wh) == low)) = false → ∀ k, k < j + 1 → (!H k && (decide (R k < wh) == low)) = false from fun h k hk => by
        by_cases e : k = j
        · subst e; exact h
        · exact HNO.out k (by omega))
      have HLT := Lib.hid hlt
      generalize H j = hj' at *
      generalize hd : decide (R j < wh) = d at *
      have HD := Lib.hid hd
      clear hlt hj
      cases hj' with
      | true =>
        have HS2 := Lib.hid (HS.out (by simp))
        clear hd
        go_wp2
        go_quiet (fail)
        go_wp2
        go_roundw
        case rel => exact ⟨j + 1, HLT.out, by go_num, HS2.out, HQ.out.trans ⟨_, rfl⟩⟩
        case measure => have := HLT.out; simp [intOf]; omega
      | false =>
        cases low <;> cases d
        case true.true | false.false =>
          have HC2 := Lib.hid (HC.out (by rfl))
          go_wp2
          go_quiet (fail)
          go_wp2
          go_ret
          exact ⟨by rw [HC2.out]; rfl, HQ.out.trans ⟨_, rfl⟩⟩
        all_goals
          have HS2 := Lib.hid (HS.out (by rfl))
          go_wp2
          go_quiet (fail)
          go_wp2
          go_roundw
          case rel => exact ⟨j + 1, HLT.out, by go_num, HS2.out, HQ.out.trans ⟨_, rfl⟩⟩
          case measure => have := HLT.out; simp [intOf]; omega
    · have t0 : decide ((j : Int) < 2) = false := by simp; omega
      have HF := Lib.hid (show findV low H R wh = -1 from by unfold findV; rw [if_neg (by rw [HNO.out 0 (by omega)]; decide), if_neg (by rw [HNO.out 1 (by omega)]; decide)])
      clear hlt hj
      go_wp2
      go_ret
      exact ⟨by rw [HF.out]; rfl, HQ.out⟩
end Go.Proofs.Ytndhlgbpfkidbaa
