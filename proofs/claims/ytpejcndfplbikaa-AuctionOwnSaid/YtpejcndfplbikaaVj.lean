/-
  Layer 21: what goes back, by the program and by the document.
-/
import Derived.Test.YtpejcndfplbikaaVh
import Derived.Deep.RegionHeld3
namespace Go.Proofs.Ytpejcndfplbikaa
open Go.RowKit Go.K
set_option linter.unusedVariables false
set_option linter.unusedSimpArgs false
theorem own_new (w : World) (g : Gi) : (w.alloc (.cells #[.int .i64 g.to', .int .i64 g.item, .int .u64 g.coins] 64)).ownsRow w.heap.size 64 3 (.slice (some ⟨w.heap.size, 0, none⟩) 1 1) 1 (gFlat [g]) :=
  ⟨rfl, .inr ⟨w.heap.size, 1, _, rfl, Nat.le_refl _, alloc_at rfl, Nat.le_refl _, by decide, rfl, rfl⟩⟩
def OwnG (B : Nat) (W : World) (r : Ending) (gs : List Gi) : Prop := ∃ ad cap, r = .returned (.slice ad gs.length cap) ∧ W.ownsRow B 64 3 (.slice ad gs.length cap) gs.length (gFlat gs)
theorem thing_any (t i : Int) (w : World) : Calls Try.prog 46 #[.int .i64 t, .int .i64 i] w fun r w' => OwnG w.heap.size w' r (giveL t i 0) ∧ Below w.heap.size w w' := by
  go_enter Try.func46, Try.ntmps46
  by_cases h : i = 0
  · have c1 : (i == 0) = true := by simpa using h
    have HG := Lib.hid (show giveL t i 0 = [] by unfold giveL; rw [if_pos h, if_pos rfl]; rfl)
    clear h
    go_wp2
    go_ret
    exact ⟨⟨none, 0, by rw [HG.out]; rfl, by rw [HG.out]; exact World.ownsRow_nil _ _ _ _⟩, Below.refl _ _⟩
  · have c1 : (i == 0) = false := by simpa using h
    have HG := Lib.hid (show giveL t i 0 = [⟨t, i, 0⟩] by unfold giveL; rw [if_neg h, if_pos rfl]; rfl)
    clear h
    go_wp2
    go_ret
    exact ⟨⟨some ⟨w.heap.size, 0, none⟩, 1, by rw [HG.out]; rfl, by rw [HG.out]; exact own_new w ⟨t, i, 0⟩⟩, (Below.refl _ _).alloc (Nat.le_refl _) _⟩
theorem coins_any (t c : Int) (w : World) : Calls Try.prog 47 #[.int .i64 t, .int .u64 c] w fun r w' => OwnG w.heap.size w' r (giveL t 0 c) ∧ Below w.heap.size w w' := by
  go_enter Try.func47, Try.ntmps47
  by_cases h : c = 0
  · have c1 : (c == 0) = true := by simpa using h
    have HG := Lib.hid (show giveL t 0 c = [] by unfold giveL; rw [if_pos rfl, if_pos h]; rfl)
    clear h
    go_wp2
    go_ret
    exact ⟨⟨none, 0, by rw [HG.out]; rfl, by rw [HG.out]; exact World.ownsRow_nil _ _ _ _⟩, Below.refl _ _⟩
  · have c1 : (c == 0) = false := by simpa using h
    have HG := Lib.hid (show giveL t 0 c = [⟨t, 0, c⟩] by unfold giveL; rw [if_pos rfl, if_neg h]; rfl)
    clear h
    go_wp2
    go_ret
    exact ⟨⟨some ⟨w.heap.size, 0, none⟩, 1, by rw [HG.out]; rfl, by rw [HG.out]; exact own_new w ⟨t, 0, c⟩⟩, (Below.refl _ _).alloc (Nat.le_refl _) _⟩
theorem giveL_two (t i c : Int) : giveL t i 0 ++ giveL t 0 c = giveL t i c := by unfold giveL; simp
theorem row_off {W W' : World} {n : Nat} {o : Obj} (h : W.heap[n]? = some o) {row : Option Nat} (hg : W.grownBy W' row) (hne : some n ≠ row) : W'.heap[n]? = some o :=
  (hg.block n (lt_row h) hne).trans h
theorem own_sl {B n cap : Nat} {W : World} {ad : Option Addr} {xs : List Value} (h : W.ownsRow B 64 3 (.slice ad n cap) n xs) : (ad = none → n = 0 ∧ cap = 0) ∧ Sl W ad xs := by
  obtain ⟨a', c', hv, hn, hs, _⟩ := owns_slice h
  injection hv with h1 _ h3
  subst h1 h3
  exact ⟨hn, hs⟩
theorem OwnG.mk {B : Nat} {W : World} {v : Value} {gs : List Gi} (h : W.ownsRow B 64 3 v gs.length (gFlat gs)) : OwnG B W (.returned v) gs := by
  obtain ⟨ad, cap, hv, _⟩ := owns_slice h
  exact ⟨ad, cap, by rw [hv], hv ▸ h⟩
set_option maxRecDepth 100000 in
set_option maxHeartbeats 1000000 in
theorem rback_any (x : Ent) (w : World) : Calls Try.prog 41 #[x.agg] w fun r w' => OwnG w.heap.size w' r x.back ∧ Below w.heap.size w w' := by
  obtain ⟨xa, xi, xc, xp, xw, xk, xs⟩ := x
  unfold Ent.agg Ent.back
  simp only
  have HB := Lib.hid ((Below.refl w.heap.size w).alloc (Nat.le_refl _) (.cells #[.int .i64 xa, .int .i64 xi, .int .u64 xc, .int .u64 xp, .slice xw xs.length xk] 33))
  have r0 : (w.alloc (.cells #[.int .i64 xa, .int .i64 xi, .int .u64 xc, .int .u64 xp, .slice xw xs.length xk] 33)).heap[w.heap.size]? = some (.cells #[.int .i64 xa, .int .i64 xi, .int .u64 xc, .int .u64 xp, .slice xw xs.length xk] 33) := alloc_at rfl
  obtain ⟨f0, f1, f2, f3, f4⟩ := cells5 r0
  clear r0
  have HK1 := Lib.hid (fun V => thing_any xa xi V)
  have HK2 := Lib.hid (fun V => coins_any xa xc V)
  have HLe := Lib.hid (show (giveL xa xi 0).length + (giveL xa 0 xc).length ≤ 4 by have := giveL_le xa xi 0; have := giveL_le xa 0 xc; omega)
  go_enter Try.func41, Try.ntmps41
  go_wp2
  obtain ⟨w0, hw0⟩ : ∃ W, W = w.alloc (.cells #[.int .i64 xa, .int .i64 xi, .int .u64 xc, .int .u64 xp, .slice xw xs.length xk] 33) := ⟨_, rfl⟩
  rw [← hw0] at HB f0 f1 f2 ⊢
  have hlt0 : w.heap.size < w0.drew.heap.size := by rw [hw0]; show w.heap.size < (w.alloc _).heap.size; simp
  clear hw0 f3 f4
  have hD0 : Below w.heap.size w w0.drew := HB.out.trans ((Qt.drewN w0 1).below _)
  have B1 := Lib.hid (show (giveL xa xi 0).length + (giveL xa 0 xc).length ≤ maxLen by have := HLe.out; unfold maxLen; omega)
  have B2 := Lib.hid (show ((giveL xa xi 0).length + (giveL xa 0 xc).length) * 24 ≤ 140737488355328 by have := HLe.out; omega)
  go_region_held3 (fun V => V.cell? ⟨w.heap.size, 0, none⟩ = some (.int .i64 xa) ∧ V.cell? ⟨w.heap.size, 1, none⟩ = some (.int .i64 xi) ∧ V.cell? ⟨w.heap.size, 2, none⟩ = some (.int .u64 xc)) (go_keep)
    ((first
      | (go_at_call 46; (with_reducible refine (HK1.out _).mono ?_); rintro e1 w1 ⟨⟨a1, c1, rfl, ho1⟩, hb1⟩; have hD1 := hD0.trans (hb1.mono hD0.size); have hbw := (show Below w0.heap.size w0 w0.drew from (Qt.drewN w0 1).below _).trans hb1; have q0 := below_cell hbw f0; have q1 := below_cell hbw f1; have q2 := below_cell hbw f2)
      | (go_at_call 47; (with_reducible refine (HK2.out _).mono ?_); rintro e2 w2 ⟨⟨a2, c2, rfl, ho2⟩, hb2⟩; have hD2 := hD1.trans (hb2.mono hD1.size); have p0 := below_cell hb2 q0; have p1 := below_cell hb2 q1; have p2 := below_cell hb2 q2; have ho1' := owns_below (B := 0) ho1 hb2; obtain ⟨hn2, hs2⟩ := own_sl ho2)
      | (refine step_append_sl (by rfl) _ _ 27 (by rfl) w0.drew.heap.size 64 (.agg #[.int .i64 0, .int .i64 0, .int .u64 0]) 3 24 Try.underlying27 infoG (by rfl) (by decide) _ _ _ (by rfl) ho1' a2 _ c2 _ (by rfl) hn2 (gFlat_length _) hs2 (oneCell_gFlat _) B1.out B2.out (Nat.le_trans hb1.size hb2.size) ?_; intro v3 w3 ho3 hg3
         have s0 := hg3.cell p0 (fun h => by have h1 := (ho1'.lt _ h.symm).1; simp only at h1; omega)
         have s1 := hg3.cell p1 (fun h => by have h1 := (ho1'.lt _ h.symm).1; simp only at h1; omega)
         have s2 := hg3.cell p2 (fun h => by have h1 := (ho1'.lt _ h.symm).1; simp only at h1; omega))))
  have HO := Lib.hid (OwnG.mk (B := w.heap.size) (gs := giveL xa xi xc) (by rw [← giveL_two xa xi xc, List.length_append, gFlat_append]; exact owns_base ho3 (Nat.le_of_lt hlt0)))
  have HB3 := Lib.hid (show Below w.heap.size w w3 from (hD2.grown hg3 hD2.size (fun k hk => by have := (ho1'.lt k hk).1; omega)))
  clear ho3 hg3 ho1' ho2 ho1 hb1 hb2 hD0 hD1 hD2 q0 q1 q2 p0 p1 p2 s0 s1 s2
  go_wp2
  go_ret
  exact ⟨HO.out, HB3.out⟩
end Go.Proofs.Ytpejcndfplbikaa
