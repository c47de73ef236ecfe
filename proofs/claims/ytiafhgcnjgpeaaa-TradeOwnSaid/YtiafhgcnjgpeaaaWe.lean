/-
  Layer 20: what an entry gives; what goes back: the document's.
-/
import Derived.Test.YtiafhgcnjgpeaaaWd
namespace Go.Proofs.Ytiafhgcnjgpeaaa
open Go.RowKit Go.K
set_option linter.unusedVariables false
set_option linter.unusedSimpArgs false

theorem info56' : (Try.prog.info? 56).map (fun i => (i.zero, i.size, i.bytes)) = some (some (.agg #[.int .i64 0, .int .i64 0, .int .u64 0]), 3, 24) := by kernel_rfl
theorem info44' : (Try.prog.info? 44).map (fun i => (i.zero, i.size, i.bytes)) = some (some (.agg #[.int .i64 0, .int .i64 0, .int .u64 0, .int .u64 0, .slice none 0 0]), 5, 56) := by kernel_rfl
theorem info3' : (Try.prog.info? 3).map (fun i => (i.zero, i.size, i.bytes)) = some (some (.int .i64 0), 1, 8) := by kernel_rfl

theorem sl_gift {w : World} {b : Nat} (h : b = w.heap.size) (g : Gi) : Sl (w.alloc (.cells #[.int .i64 g.to, .int .i64 g.item, .int .u64 g.coins] 56)) (some ⟨b, 0, none⟩) (gFlat [g]) := by
  subst h; exact sl_new w (gFlat [g]) 56 (0, 0)
theorem grown_none_cell {W W' : World} {a : Addr} {v : Value} (hg : W.grownBy W' none) (h : W.cell? a = some v) : W'.cell? a = some v := hg.cell h (by simp)

def gV (e : Ent) (to : Int) : List Gi := (if e.item ≠ 0 then [⟨to, e.item, 0⟩] else []) ++ (if e.coins ≠ 0 then [⟨to, 0, e.coins⟩] else [])
theorem gV_length_le (e : Ent) (to : Int) : (gV e to).length ≤ 2 := by
  unfold gV
  rw [List.length_append]
  split <;> split <;> simp
theorem oneCell_gFlat (l : List Gi) : ∀ u ∈ gFlat l, u.oneCell' = true := by
  intro u hu
  obtain ⟨g, _, hg⟩ := List.mem_flatMap.1 hu
  simp only [Gi.cells, List.mem_cons, List.not_mem_nil, or_false] at hg
  rcases hg with rfl | rfl | rfl <;> rfl
set_option maxRecDepth 100000 in
theorem gives_any (x : Ent) (to : Int) (w : World) :
    Calls Try.prog 43 #[x.agg, .int .i64 to] w fun r w' => ∃ v, r = .returned v ∧ w'.ownsRow w.heap.size 56 3 v (gV x to).length (gFlat (gV x to)) ∧ Below w.heap.size w w' := by
  obtain ⟨xa, xi, xc, xp, xw, xk, xs⟩ := x
  unfold Ent.agg
  go_enter Try.func43, Try.ntmps43
  have HB := Lib.hid ((Below.refl w.heap.size w).alloc (Nat.le_refl _) (.cells #[.int .i64 xa, .int .i64 xi, .int .u64 xc, .int .u64 xp, .slice xw xs.length xk] 44))
  by_cases h1 : xi = 0
  · have c1 : (xi != 0) = false := by simpa using h1
    by_cases h2 : xc = 0
    · have c2 : (xc != 0) = false := by simpa using h2
      have HV := Lib.hid (show gV ⟨xa, xi, xc, xp, xw, xk, xs⟩ to = [] by simp [gV, h1, h2])
      clear h1 h2
      go_wp2
      go_ret
      exact ⟨_, rfl, by rw [HV.out]; exact World.ownsRow_nil _ _ _ _, HB.out⟩
    · have c2 : (xc != 0) = true := by simpa using h2
      have HV := Lib.hid (show gV ⟨xa, xi, xc, xp, xw, xk, xs⟩ to = [⟨to, 0, xc⟩] by simp [gV, h1, h2])
      clear h1 h2
      go_wp2_with (at_builtin; refine wpList_append_sl rfl _ _ 37 rfl w.heap.size 56 (.agg #[.int .i64 0, .int .i64 0, .int .u64 0]) 3 24 Try.underlying37 info56' rfl (by decide) _ 0 [] rfl (World.ownsRow_nil _ _ _ _) (some ⟨w.heap.size + 1, 0, none⟩) 1 1 (gFlat [⟨to, 0, xc⟩]) rfl (fun h => by cases h) rfl ?d10 (oneCell_gFlat _) ?d11 ?d12 ?d1b ?d13)
      case d10 => exact sl_gift (by simp) ⟨to, 0, xc⟩
      case d11 => unfold maxLen; omega
      case d12 => omega
      case d1b => exact (HB.out.alloc HB.out.size _).size
      intro v1 w1 ho hg
      have HB1 := Lib.hid ((HB.out.alloc HB.out.size (.cells #[.int .i64 to, .int .i64 0, .int .u64 xc] 56)).grown hg (HB.out.alloc HB.out.size _).size (fun k hk => by cases hk) : Below w.heap.size w w1)
      have HO1 := Lib.hid ho
      clear ho hg
      go_wp2
      go_ret
      exact ⟨_, rfl, by rw [HV.out]; exact HO1.out, HB1.out⟩
  · have c1 : (xi != 0) = true := by simpa using h1
    by_cases h2 : xc = 0
    · have c2 : (xc != 0) = false := by simpa using h2
      have HV := Lib.hid (show gV ⟨xa, xi, xc, xp, xw, xk, xs⟩ to = [⟨to, xi, 0⟩] by simp [gV, h1, h2])
      clear h1 h2
      go_wp2_with (at_builtin; refine wpList_append_sl rfl _ _ 37 rfl w.heap.size 56 (.agg #[.int .i64 0, .int .i64 0, .int .u64 0]) 3 24 Try.underlying37 info56' rfl (by decide) _ 0 [] rfl (World.ownsRow_nil _ _ _ _) (some ⟨w.heap.size + 1, 0, none⟩) 1 1 (gFlat [⟨to, xi, 0⟩]) rfl (fun h => by cases h) rfl ?d20 (oneCell_gFlat _) ?d21 ?d22 ?d2b ?d23)
      case d20 => exact sl_gift (by simp) ⟨to, xi, 0⟩
      case d21 => unfold maxLen; omega
      case d22 => omega
      case d2b => exact (HB.out.alloc HB.out.size _).size
      intro v1 w1 ho hg
      have HB1 := Lib.hid ((HB.out.alloc HB.out.size (.cells #[.int .i64 to, .int .i64 xi, .int .u64 0] 56)).grown hg (HB.out.alloc HB.out.size _).size (fun k hk => by cases hk) : Below w.heap.size w w1)
      have HO1 := Lib.hid ho
      have HZ := Lib.hid (grown_none_cell hg (by rw [cell_of_row _ _ _ _ _ _ (alloc_old (alloc_at rfl))]; rfl) : w1.cell? ⟨w.heap.size, 2, none⟩ = some (.int .u64 xc))
      clear ho hg
      have z2 : w1.cell? ⟨w.heap.size, 2, none⟩ = some (.int .u64 xc) := HZ.out
      go_wp2
      go_ret
      exact ⟨_, rfl, by rw [HV.out]; exact HO1.out, HB1.out⟩
    · have c2 : (xc != 0) = true := by simpa using h2
      have HV := Lib.hid (show gV ⟨xa, xi, xc, xp, xw, xk, xs⟩ to = [⟨to, xi, 0⟩, ⟨to, 0, xc⟩] by simp [gV, h1, h2])
      clear h1 h2
      go_wp2_with (at_builtin; refine wpList_append_sl rfl _ _ 37 rfl w.heap.size 56 (.agg #[.int .i64 0, .int .i64 0, .int .u64 0]) 3 24 Try.underlying37 info56' rfl (by decide) _ 0 [] rfl (World.ownsRow_nil _ _ _ _) (some ⟨w.heap.size + 1, 0, none⟩) 1 1 (gFlat [⟨to, xi, 0⟩]) rfl (fun h => by cases h) rfl ?d30 (oneCell_gFlat _) ?d31 ?d32 ?d3b ?d33)
      case d30 => exact sl_gift (by simp) ⟨to, xi, 0⟩
      case d31 => unfold maxLen; omega
      case d32 => omega
      case d3b => exact (HB.out.alloc HB.out.size _).size
      intro v1 w1 ho hg
      have HB1 := Lib.hid ((HB.out.alloc HB.out.size (.cells #[.int .i64 to, .int .i64 xi, .int .u64 0] 56)).grown hg (HB.out.alloc HB.out.size _).size (fun k hk => by cases hk) : Below w.heap.size w w1)
      have HO1 := Lib.hid ho
      have HZ := Lib.hid (grown_none_cell hg (by rw [cell_of_row _ _ _ _ _ _ (alloc_old (alloc_at rfl))]; rfl) : w1.cell? ⟨w.heap.size, 2, none⟩ = some (.int .u64 xc))
      clear ho hg
      have z2 : w1.cell? ⟨w.heap.size, 2, none⟩ = some (.int .u64 xc) := HZ.out
      go_wp2_with (at_builtin; refine wpList_append_sl rfl _ _ 37 rfl w.heap.size 56 (.agg #[.int .i64 0, .int .i64 0, .int .u64 0]) 3 24 Try.underlying37 info56' rfl (by decide) _ 1 (gFlat [⟨to, xi, 0⟩]) rfl (HO1.out.alloc _) (some ⟨w1.heap.size, 0, none⟩) 1 1 (gFlat [⟨to, 0, xc⟩]) rfl (fun h => by cases h) rfl ?d40 (oneCell_gFlat _) ?d41 ?d42 ?d4b ?d43)
      case d40 => exact sl_gift (by simp) ⟨to, 0, xc⟩
      case d41 => unfold maxLen; omega
      case d42 => omega
      case d4b => exact (HB1.out.alloc HB1.out.size _).size
      intro v2 w2 ho hg
      have HB2 := Lib.hid ((HB1.out.alloc HB1.out.size (.cells #[.int .i64 to, .int .i64 0, .int .u64 xc] 56)).grown hg (HB1.out.alloc HB1.out.size _).size (fun k hk => (HO1.out.lt k hk).1) : Below w.heap.size w w2)
      have HO2 := Lib.hid ho
      clear ho hg
      go_wp2
      go_ret
      exact ⟨_, rfl, by rw [HV.out]; exact HO2.out, HB2.out⟩
end Go.Proofs.Ytiafhgcnjgpeaaa
