/-
  Layer 1: the document's numbers: one taken from another one; Take.
-/
import Derived.Test.YtbggibdldadpiaaNwd
namespace Go.Proofs.Ytbggibdldadpiaa.n01
open Go.RowKit Go.K Go.Words
set_option linter.unusedVariables false
set_option linter.unusedSimpArgs false

theorem add_op (gn gx gy : Nat) (b1 b2 : Bool) (a1 a2 : Option Addr) (c1 c2 : Nat) (l1 l2 : List (BitVec 32)) (w : World) (hn : IsInt w gn) (o1 : Op1 w gx b1 a1 c1 l1) (o2 : Op1 w gy b2 a2 c2 l2) :
    Calls Try.prog 35 #[.pointer (some ⟨gn, 0, none⟩), .pointer (some ⟨gx, 0, none⟩), .pointer (some ⟨gy, 0, none⟩)] w fun e w' => e = .returned (.pointer (some ⟨gn, 0, none⟩)) ∧ w.grownBy w' (some gn) ∧ IntAt w' gn (sg b1 (val l1) + sg b2 (val l2)) := by
  by_cases hb : b1 = b2
  · subst hb
    refine (add_same gn gx gy b1 a1 a2 c1 c2 l1 l2 w hn o1 o2).mono fun e w' ⟨h1, h2, h3⟩ => ⟨h1, h2, ?_⟩
    have : sg b1 (val l1) + sg b1 (val l2) = sg b1 (val l1 + val l2) := by unfold sg; split <;> omega
    rw [this]; exact h3.at'
  · have hb' : (b1 == b2) = false := by simpa using hb
    by_cases hle : val l2 ≤ val l1
    · refine (add_diff gn gx gy b1 b2 a1 a2 c1 c2 l1 l2 w hn o1 o2 hb' hle).mono fun e w' ⟨h1, h2, h3⟩ => ⟨h1, h2, ?_⟩
      have : sg b1 (val l1) + sg b2 (val l2) = sg b1 (val l1 - val l2 : Nat) := by
        unfold sg
        cases b1 <;> cases b2 <;> simp at hb ⊢ <;> omega
      rw [this]; exact h3.at'
    · refine (add_diff2 gn gx gy b1 b2 a1 a2 c1 c2 l1 l2 w hn o1 o2 hb' (by omega)).mono fun e w' ⟨h1, h2, h3⟩ => ⟨h1, h2, ?_⟩
      have : sg b1 (val l1) + sg b2 (val l2) = sg b2 (val l2 - val l1 : Nat) := by
        unfold sg
        cases b1 <;> cases b2 <;> simp at hb ⊢ <;> omega
      rw [this]; exact h3.at'
theorem Op1.away {w W : World} {g : Nat} {b : Bool} {ad : Option Addr} {cap : Nat} {l : List (BitVec 32)} (h : Op1 w g b ad cap l) (hb : Below w.heap.size w W) : Op1 W g b ad cap l :=
  ⟨row_kept h.row hb, h.sl.kept hb, h.nm, h.le, h.sh⟩
set_option maxRecDepth 100000 in
set_option maxHeartbeats 1000000 in
theorem sub_any (gn gx gy : Nat) (x y : Int) (w : World) (hn : IsInt w gn) (hx : IntAt w gx x) (hy : IntAt w gy y) (bx : x.natAbs < pw 900) (by' : y.natAbs < pw 900) (hne : gn ≠ gy) :
    Calls Try.prog 37 #[.pointer (some ⟨gn, 0, none⟩), .pointer (some ⟨gx, 0, none⟩), .pointer (some ⟨gy, 0, none⟩)] w fun e w' => e = .returned (.pointer (some ⟨gn, 0, none⟩)) ∧ w.grownBy w' (some gn) ∧ IntAt w' gn (x - y) := by
  obtain ⟨b1, a1, c1, l1, o1, e1, v1⟩ := hx.open bx
  obtain ⟨b2, a2, c2, l2, o2, e2, v2⟩ := hy.open by'
  have y0 := o2.c0
  have y1 := o2.c1
  have HE := Lib.hid (show x - y = sg b1 (val l1) + sg (!b2) (val l2) by rw [e1, e2]; unfold sg; cases b1 <;> cases b2 <;> simp <;> omega)
  have n0 := World.new_ne w ⟨gy, 0, none⟩ y0
  have hb0 : Below w.heap.size w (w.alloc (.cells #[.bool (!b2), .slice a2 l2.length c2] 73)).drew := ((Below.refl w.heap.size w).alloc (Nat.le_refl _) _).trans ⟨rfl, rfl, rfl, Nat.le_refl _, fun _ _ => rfl⟩
  have HB0 := Lib.hid hb0
  have HN := Lib.hid (hn.kept hb0)
  have hrow : (w.alloc (.cells #[.bool (!b2), .slice a2 l2.length c2] 73)).drew.heap[w.heap.size]? = some (.cells #[.bool (!b2), .slice a2 l2.length c2] 73) := alloc_at (w := w) rfl
  have HC := Lib.hid (add_op gn gx w.heap.size b1 (!b2) a1 a2 c1 c2 l1 l2 _ (hn.kept hb0) (o1.away hb0) ⟨hrow, o2.sl.kept hb0, o2.nm, o2.le, o2.sh⟩)
  have Y0 := Lib.hid (below_cell hb0 y0)
  have Y1 := Lib.hid (below_cell hb0 y1)
  clear hb0 hrow
  clear hn hx hy o1 o2 e1 e2 v1 v2
  go_enter Try.func37, Try.ntmps37
  go_wp2
  go_region_held3 (fun V => V.cell? ⟨gy, 0, none⟩ = some (.bool b2) ∧ V.cell? ⟨gy, 1, none⟩ = some (.slice a2 l2.length c2)) (go_keep)
    ((go_at_call 35; refine HC.out.mono ?_; rintro e w1 ⟨rfl, hgr, hi⟩; have y05 := grown_cell hgr Y0.out hne; have y15 := grown_cell hgr Y1.out hne))
  all_goals
    have G1 := Lib.hid hgr
    have G2 := Lib.hid hi
    clear hgr hi
    go_wp2
    go_ret
    exact ⟨rfl, grown_trans (grown_below HB0.out _) G1.out, by rw [HE.out]; exact G2.out⟩
def takeV (x y : BitVec 64) : Value := if x.toNat < y.toNat then .tuple #[.int .u64 0, .int .i64 11] else .tuple #[.int .u64 (U64 (x - y)), .int .i64 0]
theorem takeV_lt {x y : BitVec 64} (h : x.toNat < y.toNat) : takeV x y = .tuple #[.int .u64 0, .int .i64 11] := if_pos h
theorem takeV_ge {x y : BitVec 64} (h : ¬ x.toNat < y.toNat) : takeV x y = .tuple #[.int .u64 (U64 (x - y)), .int .i64 0] := if_neg h
end Go.Proofs.Ytbggibdldadpiaa.n01

