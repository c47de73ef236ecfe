/-
  Layer 20: the statements' copies: an entry in memory of its own, with marks behind its wishes.
-/
import Derived.Test.YtiafhgcnjgpeaaaWa
import Derived.Test.YtiafhgcnjgpeaaaStore
import Derived.Test.YtiafhgcnjgpeaaaStep
namespace Go.Proofs.Ytiafhgcnjgpeaaa
open Go.RowKit Go.K
set_option linter.unusedVariables false
set_option linter.unusedSimpArgs false

theorem infoE : (Try.prog.info? 44).map (fun i => (i.zero, i.size, i.bytes)) = some (some (.agg #[.int .i64 0, .int .i64 0, .int .u64 0, .int .u64 0, .slice none 0 0]), 5, 56) := by kernel_rfl
theorem infoI : (Try.prog.info? 3).map (fun i => (i.zero, i.size, i.bytes)) = some (some (.int .i64 0), 1, 8) := by kernel_rfl
theorem sz3 : (Try.prog.info? 3).map (·.size) = some 1 := by kernel_rfl
theorem sz22 : (Try.prog.info? 22).map (·.size) = some 1 := by kernel_rfl
theorem sz23 : (Try.prog.info? 23).map (·.size) = some 1 := by kernel_rfl
theorem sz42 : (Try.prog.info? 42).map (·.size) = some 1 := by kernel_rfl
theorem sz44 : (Try.prog.info? 44).map (·.size) = some 5 := by kernel_rfl
theorem sz25 : (Try.prog.info? 25).map (·.size) = some 11 := by kernel_rfl
theorem sz56 : (Try.prog.info? 56).map (·.size) = some 3 := by kernel_rfl
structure MarkE (B : Nat) (W : World) (x : Ent) : Prop where
  row : W.ownsRow B 3 1 (.slice x.wa (x.ws.length + 2) x.wc) (x.ws.length + 2) (vI (x.ws ++ [-71, -72]))
  mx : x.ws.length ≤ 17592186043904
theorem MarkE.at' {B : Nat} {W : World} {x : Ent} (h : MarkE B W x) : ∃ g, x.wa = some ⟨g, 0, none⟩ ∧ B ≤ g ∧ x.ws.length + 2 ≤ x.wc ∧ Sl W x.wa (vI (x.ws ++ [-71, -72])) := by
  obtain ⟨g, cap, cur, hv, hg, hr, hle, _, _, _⟩ := owns_cases h.row (by omega)
  injection hv with h1 h2 h3
  subst h3
  refine ⟨g, h1, hg, hle, ?_⟩
  have hh := h.row
  rw [h1] at hh ⊢
  exact sl_of_owns hh
theorem MarkE.ok {B : Nat} {W : World} {x : Ent} (h : MarkE B W x) : EntOk W x := by
  obtain ⟨g, h1, hg, hle, hs⟩ := h.at'
  refine ⟨?_, by omega, h.mx, fun e => by rw [h1] at e; cases e⟩
  intro hne
  obtain ⟨b, off, he, hc⟩ := hs (vI_ne (k := 0) (by simp))
  refine ⟨b, off, he, fun i hi => ?_⟩
  rw [vI_length] at hi
  rw [hc i (by rw [vI_length, List.length_append]; omega), vI_append, List.getElem?_append_left (by rw [vI_length]; exact hi)]
theorem MarkE.kept {B : Nat} {W W' : World} {x : Ent} (h : MarkE B W x) (hb : Below W.heap.size W W') : MarkE B W' x := ⟨owns_below (B := 0) h.row hb, h.mx⟩
set_option maxRecDepth 100000 in
set_option maxHeartbeats 2000000 in
theorem copied_any (x : Ent) (w : World) (hx : EntOk w x) :
    Calls Try.prog 25 #[x.agg] w fun r w' => ∃ x', r = .returned (Ent.agg x') ∧ x'.d = x.d ∧ MarkE w.heap.size w' x' ∧ Below w.heap.size w w' := by
  obtain ⟨xa, xi, xc, xp, xw, xk, xs⟩ := x
  have hm : xs.length ≤ 17592186043904 := hx.mx
  have HX := Lib.hid hx.sl
  have HN := Lib.hid hx.nil
  unfold Ent.agg
  clear hx
  go_enter Try.func25, Try.ntmps25
  have HB := Lib.hid (((Below.refl w.heap.size w).alloc (Nat.le_refl _) (.cells #[.int .i64 xa, .int .i64 xi, .int .u64 xc, .int .u64 xp, .slice xw xs.length xk] 44)).alloc (by simp) (.cells #[.int .i64 0, .int .i64 0, .int .u64 0, .int .u64 0, .slice none 0 0] 44))
  go_wp2_with (at_builtin; refine wpList_append_sl rfl _ _ 42 rfl (w.heap.size + 2) 3 (.int .i64 0) 1 8 Try.underlying42 infoI rfl (by decide) (.slice none 0 0) 0 [] rfl (World.ownsRow_nil _ _ _ _) xw xs.length xk (vI xs) rfl HN.out ?a1 (HX.out.kept HB.out) (oneCell_vI _) ?a2 ?a3 (by simp) ?a5)
  case a1 => exact vI_length _
  case a2 => unfold maxLen; omega
  case a3 => omega
  intro v1 w1 ho hg
  have r1 : w1.heap[w.heap.size]? = some (.cells #[.int .i64 xa, .int .i64 xi, .int .u64 xc, .int .u64 xp, .slice xw xs.length xk] 44) := row_past (alloc_old (alloc_at rfl)) hg (fun h => by cases h)
  have r2 : w1.heap[w.heap.size + 1]? = some (.cells #[.int .i64 0, .int .i64 0, .int .u64 0, .int .u64 0, .slice none 0 0] 44) := row_past (alloc_at (by simp)) hg (fun h => by cases h)
  have HB1 := Lib.hid (HB.out.grown hg HB.out.size (fun k hk => by cases hk))
  have HO1 := Lib.hid ho
  have HS1 := Lib.hid hg.size
  clear ho hg
  go_wp2_with (at_builtin; refine wpList_append_sl rfl _ _ 42 rfl (w.heap.size + 2) 3 (.int .i64 0) 1 8 Try.underlying42 infoI rfl (by decide) v1 _ (vI xs) rfl (by simpa using HO1.out.alloc _) (some ⟨w1.heap.size, 0, none⟩) 2 2 (vI [-71, -72]) rfl (fun h => by cases h) ?b1 (sl_new _ _ _ _) (oneCell_vI _) ?b2 ?b3 ?b4 ?b5)
  case b1 => rfl
  case b2 => unfold maxLen; omega
  case b3 => omega
  case b4 => have := HS1.out; simp at this ⊢; omega
  intro v2 w2 ho hg
  obtain ⟨g, cap, cur, rfl, hge, hrow, hle, hcm, hsz, htk⟩ := owns_cases ho (by omega)
  have HO2 := Lib.hid ho
  have HR2 := Lib.hid hrow
  have HG2 := Lib.hid hge
  have q1 : w2.heap[w.heap.size]? = some (.cells #[.int .i64 xa, .int .i64 xi, .int .u64 xc, .int .u64 xp, .slice xw xs.length xk] 44) := row_past (alloc_old r1) hg (fun h => by have := (HO1.out.lt _ h.symm).1; omega)
  have q2 : w2.heap[w.heap.size + 1]? = some (.cells #[.int .i64 0, .int .i64 0, .int .u64 0, .int .u64 0, .slice none 0 0] 44) := row_past (alloc_old r2) hg (fun h => by have := (HO1.out.lt _ h.symm).1; omega)
  have HB2 := Lib.hid ((HB1.out.alloc HB1.out.size _).grown hg (HB1.out.alloc HB1.out.size _).size (fun k hk => by have := (HO1.out.lt k hk).1; omega))
  clear ho hg r1 r2 hrow htk hge hcm hsz
  go_wp2_with (first
    | (refine wpList_store_lit 42 w.heap.size 4 #[.int .i64 xa, .int .i64 xi, .int .u64 xc, .int .u64 xp, .slice (some ⟨g, 0, none⟩) xs.length cap] (.slice (some ⟨g, 0, none⟩) xs.length cap) q1 sz42 (Nat.le_of_ble_eq_true rfl) rfl rfl (by rfl) (by rfl) ?_; intro w3 hp3; obtain ⟨e0, e1, e2, e3, e4⟩ := cells5 hp3.at'; have s2 := hp3.row q2 (by omega); have s1 := hp3.at')
    | (refine wpList_store_lit 44 (w.heap.size + 1) 0 #[.int .i64 xa, .int .i64 xi, .int .u64 xc, .int .u64 xp, .slice (some ⟨g, 0, none⟩) xs.length cap] (.agg #[.int .i64 xa, .int .i64 xi, .int .u64 xc, .int .u64 xp, .slice (some ⟨g, 0, none⟩) xs.length cap]) s2 sz44 (Nat.le_of_ble_eq_true rfl) rfl rfl (by rfl) (by rfl) ?_; intro w4 hp4; clear e0 e1 e2 e3 e4; have HP := Lib.hid (And.intro hp3 hp4); clear hp3 hp4; obtain ⟨e0, e1, e2, e3, e4⟩ := cells5 HP.out.2.at'))
  obtain ⟨hp3, hp4⟩ := HP.out
  have hgg := HG2.out
  have HB3 := hp3.below HB2.out HB2.out.size (Nat.le_refl _)
  have HB4 := hp4.below HB3 HB3.size (by omega)
  have HO3 := HO2.out.kept hp3.grown (.inr (by simp [Value.ownBlock]; omega))
  have HO4 := HO3.kept hp4.grown (.inr (by simp [Value.ownBlock]; omega))
  refine bodyPost_ret (results_cell_row Try.results25 _ _ (w.heap.size + 1) 44 _ _ _ rfl hp4.at' Try.underlying44 rfl sz44) rfl ⟨⟨xa, xi, xc, xp, some ⟨g, 0, none⟩, cap, xs⟩, rfl, rfl, ⟨owns_base (by rw [vI_append]; exact HO4) (by omega), hm⟩, HB4⟩
set_option maxRecDepth 100000 in
set_option maxHeartbeats 2000000 in
theorem marks_true (x : Ent) (B : Nat) (w : World) (hx : MarkE B w x) : Calls Try.prog 29 #[x.agg] w fun r w' => r = .returned (.bool true) ∧ Below w.heap.size w w' := by
  obtain ⟨g, hw, hg, hle, hs⟩ := hx.at'
  obtain ⟨xa, xi, xc, xp, xw, xk, xs⟩ := x
  simp only at hw hle hs
  subst hw
  have hm : xs.length ≤ 17592186043904 := hx.mx
  have HB := Lib.hid ((Below.refl w.heap.size w).alloc (Nat.le_refl _) (.cells #[.int .i64 xa, .int .i64 xi, .int .u64 xc, .int .u64 xp, .slice (some ⟨g, 0, none⟩) xs.length xk] 44))
  obtain ⟨b, off, he, hc⟩ := hs.kept HB.out (vI_ne (k := 0) (by simp))
  cases he
  have h1 := hc xs.length (by rw [vI_length]; simp)
  have h2 := hc (xs.length + 1) (by rw [vI_length]; simp)
  have e1 : (vI (xs ++ [-71, -72]))[xs.length]? = some (.int .i64 (-71)) := by simp [vI]
  have e2 : (vI (xs ++ [-71, -72]))[xs.length + 1]? = some (.int .i64 (-72)) := by simp [vI]
  rw [e1] at h1
  rw [e2] at h2
  simp only [Nat.zero_add] at h1 h2
  clear e1 e2
  clear hc hs hx
  unfold Ent.agg
  go_enter Try.func29, Try.ntmps29
  go_wp2
  go_ret
  exact ⟨rfl, HB.out⟩
end Go.Proofs.Ytiafhgcnjgpeaaa
