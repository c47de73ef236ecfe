/-
  Layer 21: an entry in memory of its own, by the program and by the document.
-/
import Derived.Test.YtpejcndfplbikaaVo
namespace Go.Proofs.Ytpejcndfplbikaa
open Go.RowKit Go.K
set_option linter.unusedVariables false
set_option linter.unusedSimpArgs false
set_option maxRecDepth 100000 in
set_option maxHeartbeats 1000000 in
theorem copied_any (x : Ent) (w : World) (hx : EntOk w x) :
    Calls Try.prog 39 #[x.agg] w fun r w' => ∃ x', r = .returned (Ent.agg x') ∧ x'.d = x.d ∧ NewE w.heap.size w' x' ∧ Below w.heap.size w w' := by
  have HK := Lib.hid (fun V (h : Below w.heap.size w V) => clone_all x.wa x.wc x.ws V hx.mx (hx.sl.kept h) hx.nil)
  have HX := Lib.hid (And.intro hx.mx (And.intro hx.wf (And.intro hx.iw (And.intro hx.cw hx.pw))))
  clear hx
  obtain ⟨xa, xi, xc, xp, xw, xk, xs⟩ := x
  unfold Ent.agg
  simp only at HK HX ⊢
  have HB := Lib.hid (((Below.refl w.heap.size w).alloc (Nat.le_refl _) (.cells #[.int .i64 xa, .int .i64 xi, .int .u64 xc, .int .u64 xp, .slice xw xs.length xk] 33)).alloc (by simp) (.cells #[.int .i64 0, .int .i64 0, .int .u64 0, .int .u64 0, .slice none 0 0] 33))
  have R1 := Lib.hid (show ((w.alloc (.cells #[.int .i64 xa, .int .i64 xi, .int .u64 xc, .int .u64 xp, .slice xw xs.length xk] 33)).alloc (.cells #[.int .i64 0, .int .i64 0, .int .u64 0, .int .u64 0, .slice none 0 0] 33)).heap[w.heap.size]? = some (.cells #[.int .i64 xa, .int .i64 xi, .int .u64 xc, .int .u64 xp, .slice xw xs.length xk] 33) from alloc_old (alloc_at rfl))
  have R2 := Lib.hid (show ((w.alloc (.cells #[.int .i64 xa, .int .i64 xi, .int .u64 xc, .int .u64 xp, .slice xw xs.length xk] 33)).alloc (.cells #[.int .i64 0, .int .i64 0, .int .u64 0, .int .u64 0, .slice none 0 0] 33)).heap[w.heap.size + 1]? = some (.cells #[.int .i64 0, .int .i64 0, .int .u64 0, .int .u64 0, .slice none 0 0] 33) from alloc_at (by simp))
  go_enter Try.func39, Try.ntmps39
  go_wp2_with fail
  refine (HK.out _ HB.out).mono ?_
  rintro r0 w1 ⟨a', c', rfl, ho, hb⟩
  have q1 := row_kept R1.out hb
  have q2 := row_kept R2.out hb
  have HB1 := Lib.hid (HB.out.trans (hb.mono HB.out.size))
  have HO := Lib.hid ho
  have HBS := Lib.hid HB.out.size
  obtain ⟨y0, y1, y2, y3, y4⟩ := cells5 q1
  clear ho hb HK HB R1 R2
  go_wp2_with (first
    | (refine wpList_store_lit 31 w.heap.size 4 #[.int .i64 xa, .int .i64 xi, .int .u64 xc, .int .u64 xp, .slice a' xs.length c'] (.slice a' xs.length c') q1 szL (Nat.le_of_ble_eq_true rfl) rfl rfl (by rfl) (by rfl) ?_; intro w3 hp3; clear y0 y1 y2 y3 y4; obtain ⟨e0, e1, e2, e3, e4⟩ := cells5 hp3.at'; have s2 := hp3.row q2 (by omega); have s1 := hp3.at')
    | (refine wpList_store_lit 33 (w.heap.size + 1) 0 #[.int .i64 xa, .int .i64 xi, .int .u64 xc, .int .u64 xp, .slice a' xs.length c'] (.agg #[.int .i64 xa, .int .i64 xi, .int .u64 xc, .int .u64 xp, .slice a' xs.length c']) s2 szE (Nat.le_of_ble_eq_true rfl) rfl rfl (by rfl) (by rfl) ?_; intro w4 hp4))
  have HB3 := hp3.below HB1.out HB1.out.size (Nat.le_refl _)
  have HB4 := hp4.below HB3 HB3.size (by omega)
  have hlt : ∀ k, (Value.slice a' xs.length c').ownBlock = some k → w.heap.size + 2 ≤ k := fun k hk => by have := (HO.out.lt k hk).1; simp at this; omega
  have HO3 := HO.out.kept hp3.grown (.inr (fun e => by have := hlt _ e; omega))
  have HO4 := HO3.kept hp4.grown (.inr (fun e => by have := hlt _ e; omega))
  refine bodyPost_ret (results_cell_row Try.results39 _ _ (w.heap.size + 1) 33 _ _ _ rfl hp4.at' Try.underlying33 rfl szE) rfl ⟨⟨xa, xi, xc, xp, a', c', xs⟩, rfl, rfl, ⟨owns_base HO4 HBS.out, HX.out.1, HX.out.2.1, HX.out.2.2.1, HX.out.2.2.2.1, HX.out.2.2.2.2⟩, HB4⟩
set_option maxRecDepth 100000 in
set_option maxHeartbeats 1000000 in
theorem plain_any (x : Ent) (w : World) (hx : EntOk w x) :
    Calls Try.prog 42 #[x.agg] w fun r w' => ∃ x', r = .returned (Ent.agg x') ∧ x'.d = x.d ∧ NewE w.heap.size w' x' ∧ Below w.heap.size w w' := by
  have HS := Lib.hid (fun V (h : Below w.heap.size w V) => (hx.sl.kept h))
  have HN := Lib.hid hx.nil
  have HX := Lib.hid (And.intro hx.mx (And.intro hx.wf (And.intro hx.iw (And.intro hx.cw hx.pw))))
  clear hx
  obtain ⟨xa, xi, xc, xp, xw, xk, xs⟩ := x
  unfold Ent.agg
  simp only at HS HX HN ⊢
  have hmx : xs.length ≤ 17592186043904 := HX.out.1
  have HB := Lib.hid ((((Below.refl w.heap.size w).alloc (Nat.le_refl _) (.cells #[.int .i64 xa, .int .i64 xi, .int .u64 xc, .int .u64 xp, .slice xw xs.length xk] 33)).alloc (by simp) (.cells #[.int .i64 0, .int .i64 0, .int .u64 0, .int .u64 0, .slice none 0 0] 33)).alloc (by simp; omega) (.cells #[.int .i64 xa, .int .i64 xi, .int .u64 xc, .int .u64 xp, .slice xw xs.length xk] 33))
  have R1 := Lib.hid (show (((w.alloc (.cells #[.int .i64 xa, .int .i64 xi, .int .u64 xc, .int .u64 xp, .slice xw xs.length xk] 33)).alloc (.cells #[.int .i64 0, .int .i64 0, .int .u64 0, .int .u64 0, .slice none 0 0] 33)).alloc (.cells #[.int .i64 xa, .int .i64 xi, .int .u64 xc, .int .u64 xp, .slice xw xs.length xk] 33)).heap[w.heap.size]? = some (.cells #[.int .i64 xa, .int .i64 xi, .int .u64 xc, .int .u64 xp, .slice xw xs.length xk] 33) from alloc_old (alloc_old (alloc_at rfl)))
  have R2 := Lib.hid (show (((w.alloc (.cells #[.int .i64 xa, .int .i64 xi, .int .u64 xc, .int .u64 xp, .slice xw xs.length xk] 33)).alloc (.cells #[.int .i64 0, .int .i64 0, .int .u64 0, .int .u64 0, .slice none 0 0] 33)).alloc (.cells #[.int .i64 xa, .int .i64 xi, .int .u64 xc, .int .u64 xp, .slice xw xs.length xk] 33)).heap[w.heap.size + 1]? = some (.cells #[.int .i64 0, .int .i64 0, .int .u64 0, .int .u64 0, .slice none 0 0] 33) from alloc_old (alloc_at (by simp)))
  have R3 := Lib.hid (show (((w.alloc (.cells #[.int .i64 xa, .int .i64 xi, .int .u64 xc, .int .u64 xp, .slice xw xs.length xk] 33)).alloc (.cells #[.int .i64 0, .int .i64 0, .int .u64 0, .int .u64 0, .slice none 0 0] 33)).alloc (.cells #[.int .i64 xa, .int .i64 xi, .int .u64 xc, .int .u64 xp, .slice xw xs.length xk] 33)).heap[w.heap.size + 1 + 1]? = some (.cells #[.int .i64 xa, .int .i64 xi, .int .u64 xc, .int .u64 xp, .slice xw xs.length xk] 33) from alloc_at (by simp))
  go_enter Try.func42, Try.ntmps42
  go_wp2_with (refine wpList_store_lit 31 (w.heap.size + 1 + 1) 4 #[.int .i64 xa, .int .i64 xi, .int .u64 xc, .int .u64 xp, .slice none 0 0] (.slice none 0 0) R3.out szL (Nat.le_of_ble_eq_true rfl) rfl rfl ?q1 ?q2 ?q3)
  case q1 => exact rfl
  case q2 => exact rfl
  intro w1 hp1
  have s1 := Lib.hid (hp1.row R1.out (by omega))
  have s2 := Lib.hid (hp1.row R2.out (by omega))
  have HB1 := Lib.hid (hp1.below HB.out HB.out.size (by omega))
  have hs3 := hp1.at'
  have HSZ := Lib.hid (show w.heap.size + 3 ≤ w1.heap.size by rw [hp1.size]; simp)
  obtain ⟨y0, y1, y2, y3, y4⟩ := cells5 s1.out
  obtain ⟨z0, z1, z2, z3, z4⟩ := cells5 hs3
  have HS3 := Lib.hid hs3
  have HSS := Lib.hid (HS.out _ HB1.out)
  clear hp1 hs3 R1 R2 R3 HB HS
  have b1 : 0 + xs.length ≤ maxLen := by unfold maxLen; omega
  have b2 : (0 + xs.length) * 8 ≤ 140737488355328 := by omega
  go_wp2_with (at_builtin; refine wpList_append_sl rfl _ _ 31 rfl w1.heap.size 3 (.int .i64 0) 1 8 Try.underlying31 infoI (by rfl) (by decide) (.slice none 0 0) 0 [] (by rfl) (World.ownsRow_nil _ _ _ _) xw xs.length xk (vI xs) (by rfl) HN.out (by rw [vI_length]; omega) HSS.out (oneCell_vI _) b1 b2 (Nat.le_refl _) ?a9)
  intro v2 w2 ho2 hg2
  have HO := Lib.hid (show w2.ownsRow w1.heap.size 3 1 v2 xs.length (vI xs) by simpa using ho2)
  have HB2 := Lib.hid (HB1.out.grown hg2 HB1.out.size (fun k hk => by cases hk))
  have t1 := row_past s1.out hg2 (fun h => by cases h)
  have t2 := row_past s2.out hg2 (fun h => by cases h)
  have t3 := row_past HS3.out hg2 (fun h => by cases h)
  obtain ⟨a', c', rfl, _⟩ := owns_slice HO.out
  clear ho2 hg2 y0 y1 y2 y3 y4 z0 z1 z2 z3 z4 s1 s2 HS3
  go_wp2_with (first
    | (refine wpList_store_lit 31 (w.heap.size + 1 + 1) 4 #[.int .i64 xa, .int .i64 xi, .int .u64 xc, .int .u64 xp, .slice a' xs.length c'] (.slice a' xs.length c') t3 szL (Nat.le_of_ble_eq_true rfl) rfl rfl (by rfl) (by rfl) ?_; intro w3 hp3; obtain ⟨e0, e1, e2, e3, e4⟩ := cells5 hp3.at'; have u2 := hp3.row t2 (by omega))
    | (refine wpList_store_lit 33 (w.heap.size + 1) 0 #[.int .i64 xa, .int .i64 xi, .int .u64 xc, .int .u64 xp, .slice a' xs.length c'] (.agg #[.int .i64 xa, .int .i64 xi, .int .u64 xc, .int .u64 xp, .slice a' xs.length c']) u2 szE (Nat.le_of_ble_eq_true rfl) rfl rfl (by rfl) (by rfl) ?_; intro w4 hp4))
  have HB3 := hp3.below HB2.out HB2.out.size (by omega)
  have HB4 := hp4.below HB3 HB3.size (by omega)
  have hlt : ∀ k, (Value.slice a' xs.length c').ownBlock = some k → w.heap.size + 3 ≤ k := fun k hk => by have := (HO.out.lt k hk).1; have := HSZ.out; omega
  have HO3 := HO.out.kept hp3.grown (.inr (fun e => by have := hlt _ e; omega))
  have HO4 := HO3.kept hp4.grown (.inr (fun e => by have := hlt _ e; omega))
  refine bodyPost_ret (results_cell_row Try.results42 _ _ (w.heap.size + 1) 33 _ _ _ rfl hp4.at' Try.underlying33 rfl szE) rfl ⟨⟨xa, xi, xc, xp, a', c', xs⟩, rfl, rfl, ⟨owns_base HO4 (by have := HSZ.out; omega), HX.out.1, HX.out.2.1, HX.out.2.2.1, HX.out.2.2.2.1, HX.out.2.2.2.2⟩, HB4⟩
end Go.Proofs.Ytpejcndfplbikaa
