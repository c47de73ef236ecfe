/-
  Layer 20: Join, the program's: an entry that is taken.
-/
import Derived.Test.YtiafhgcnjgpeaaaWk
import Derived.Test.YtiafhgcnjgpeaaaFlag2
namespace Go.Proofs.Ytiafhgcnjgpeaaa
open Go.RowKit Go.K
set_option linter.unusedVariables false
set_option linter.unusedSimpArgs false

theorem joinV_0 {c : Con} {e : Ent} (h : joinV c e = 0) : termsV c = 0 ∧ e.acc ≠ c.by' ∧ e.acc = c.to ∧ bareP e = true ∧ e.item = c.want ∧ e.coins = c.price := by
  by_cases h0 : termsV c = 0
  · by_cases h1 : e.acc = c.by'
    · rw [joinV_b h0 h1] at h; exact absurd h (by decide)
    · by_cases h2 : e.acc ≠ c.to ∨ bareP e = false ∨ e.item ≠ c.want ∨ e.coins ≠ c.price
      · rw [joinV_c h0 h1 h2] at h; exact absurd h (by decide)
      · simp only [not_or, Decidable.not_not, Bool.not_eq_false] at h2
        exact ⟨h0, h1, h2⟩
  · rw [joinV_a h0] at h; exact absurd h h0
/-- The worlds of Join's last region: ahead of the store of the answer, behind it. -/
def JF (g z : Nat) (c : Con) (w : World) (b : Bool) (W : World) : Prop := Only (· = z) w W ∧ Box W g c.less ∧ Box W z (if b then c.less else conZ)
set_option maxRecDepth 100000 in
set_option maxHeartbeats 1000000 in
theorem join_yes (c : Con) (e : Ent) (w : World) (hc : ConOk w c) (he : EntOk w e) (hj : joinV c e = 0) : Calls Try.prog 26 #[c.agg, e.agg] w (JoinAns c e w) := by
  have HC := Lib.hid hc
  have HE := Lib.hid he
  have HK17 := Lib.hid (fun V (h : Below w.heap.size w V) => terms_any c V (hc.kept h))
  have HK40 := Lib.hid (fun V : World => bare_any e V)
  obtain ⟨h0, h1, h2, h3, h4, h5⟩ := joinV_0 hj
  have HJ := Lib.hid hj
  have HT0 := Lib.hid h0
  have t0 : (termsV c != 0) = false := by simpa using h0
  have t1 : (e.acc == c.by') = false := by simpa using h1
  have t2 : (e.acc != c.to) = false := by simpa using h2
  have t4 : (e.item != c.want) = false := by simpa using h4
  have t5 : (e.coins != c.price) = false := by simpa using h5
  clear hc he hj h0 h1 h2 h4 h5
  unfold Con.agg Ent.agg at *
  go_enter Try.func26, Try.ntmps26
  have HB0 := Lib.hid ((((Below.refl w.heap.size w).alloc (Nat.le_refl _) (.cells #[.int .i64 c.num, .int .i64 c.kind, .int .i64 c.by', .int .i64 c.dl, .int .i64 c.to, .int .i64 c.want, .int .u64 c.price, .int .u64 c.reserve, .int .u64 c.step, .int .i64 c.of', .slice c.ea c.es.length c.ec] 25)).alloc (by simp) (.cells #[.int .i64 e.acc, .int .i64 e.item, .int .u64 e.coins, .int .u64 e.price, .slice e.wa e.ws.length e.wc] 44)).alloc (by simp; omega) (.cells #[.int .i64 0, .int .i64 0, .int .i64 0, .int .i64 0, .int .i64 0, .int .i64 0, .int .u64 0, .int .u64 0, .int .u64 0, .int .i64 0, .slice none 0 0] 25))
  go_wp2_with fail
  with_reducible refine (HK17.out _ HB0.out).mono ?_
  rintro r0 w1 ⟨rfl, hb1⟩
  have R1 := Lib.hid (show Box w1 w.heap.size c from row_kept (alloc_old (alloc_old (alloc_at rfl))) hb1)
  have E1 := Lib.hid (show EBox w1 (w.heap.size + 1) e from row_kept (alloc_old (alloc_at (by simp))) hb1)
  have Z1 := Lib.hid (show Box w1 (w.heap.size + 1 + 1) conZ from row_kept (alloc_at (by simp)) hb1)
  have HB1 := Lib.hid (HB0.out.trans (hb1.mono (by simp; omega)))
  clear hb1
  obtain ⟨p0, p1, p2, p3, p4, p5, p6, p7, p8, p9, p10⟩ := R1.out.cells
  obtain ⟨q0, q1, q2, q3, q4⟩ := E1.out.cells
  rw [HT0.out] at t0 ⊢
  go_wp2_with fail
  with_reducible refine (HK40.out _).mono ?_
  rintro r0 w2 ⟨rfl, hb2⟩
  have R2 := Lib.hid (R1.out.kept hb2)
  have E2 := Lib.hid (E1.out.kept hb2)
  have Z2 := Lib.hid (Z1.out.kept hb2)
  have HB2 := Lib.hid (HB1.out.trans (hb2.mono HB1.out.size))
  clear hb2
  clear p0 p1 p2 p3 p4 p5 p6 p7 p8 p9 p10
  clear q0 q1 q2 q3 q4
  obtain ⟨p0, p1, p2, p3, p4, p5, p6, p7, p8, p9, p10⟩ := R2.out.cells
  obtain ⟨q0, q1, q2, q3, q4⟩ := E2.out.cells
  have hmf : ∀ fn first cap w, (Instr.makeFunc fn first cap).run Try.prog w = .ok (.func fn first cap) w := fun _ _ _ _ => rfl
  have L2 := Lib.hid (show w.heap.size + 1 + 1 < w2.heap.size from Z2.out.lt)
  go_wp2_with fail
  have K45 := Lib.hid (give_45 w2.heap.size (.slice none 0 0) 0 [] c.ea c.ec c.es c.to w.heap.size w2 (Nat.le_refl _) (World.ownsRow_nil _ _ _ _) (by omega) HC.out.mx ((HC.out.kept HB2.out).sl) (fun x _ _ h => by cases h)
    (fun x V hV => clo_45 x w.heap.size c.to V (by rw [cell_of_row _ _ _ _ _ _ (R2.out.kept hV)]; rfl)))
  with_reducible refine K45.out.mono ?_
  rintro r0 w3 ⟨v1, rfl, ho3, hb3⟩
  simp only [Nat.zero_add, List.nil_append] at ho3
  have R3 := Lib.hid (R2.out.kept hb3)
  have E3 := Lib.hid (E2.out.kept hb3)
  have Z3 := Lib.hid (Z2.out.kept hb3)
  have HB3 := Lib.hid (HB2.out.trans (hb3.mono HB2.out.size))
  have L3 := Lib.hid hb3.size
  have HO3 := Lib.hid ho3
  clear hb3 ho3
  clear p0 p1 p2 p3 p4 p5 p6 p7 p8 p9 p10
  clear q0 q1 q2 q3 q4
  obtain ⟨p0, p1, p2, p3, p4, p5, p6, p7, p8, p9, p10⟩ := R3.out.cells
  obtain ⟨q0, q1, q2, q3, q4⟩ := E3.out.cells
  go_wp2_with fail
  have L3' := L3.out
  have L2' := L2.out
  have HL1 := Lib.hid (show (giveV c.to c.es).length ≤ 2 from by
    obtain ⟨x, hx⟩ := terms_one HT0.out
    rw [hx]
    exact giveV_length_le c.to [x])
  have K46 := Lib.hid (show Calls Try.prog 41 #[v1, .func (.func 46) #[] #[.pointer (some ⟨w.heap.size, 0, none⟩)], .slice (some ⟨w3.heap.size, 0, none⟩) 1 1] _ _ from give_46 w2.heap.size v1 (giveV c.to c.es).length (gFlat (giveV c.to c.es)) (some ⟨w3.heap.size, 0, none⟩) 1 [e] c.by' w.heap.size (w3.alloc (.cells #[.int .i64 e.acc, .int .i64 e.item, .int .u64 e.coins, .int .u64 e.price, .slice e.wa e.ws.length e.wc] 44))
    (by simp only [World.size_alloc]; omega) (HO3.out.alloc _) HL1.out (Nat.le_of_ble_eq_true rfl)
    (show Sl _ _ (eFlat [e]) from sl_new w3 [.int .i64 e.acc, .int .i64 e.item, .int .u64 e.coins, .int .u64 e.price, .slice e.wa e.ws.length e.wc] 44 (0, 0))
    (fun x hx _ hk => by
      injection hx with hx; subst hx
      have := (HO3.out.lt _ hk.symm).2
      simp only at this
      omega)
    (fun x V hV => clo_46 x w.heap.size c.by' V (by rw [cell_of_row _ _ _ _ _ _ ((hV.block w.heap.size (by omega)).trans (R3.out.alloc _))]; rfl)))
  with_reducible refine K46.out.mono ?_
  rintro r0 w4 ⟨v2, rfl, ho4, hb4⟩
  have HG := Lib.hid (show joinG c e = giveV c.to c.es ++ giveV c.by' [e] by unfold joinG; rw [if_pos HJ.out]; simp [giveV])
  have ho4 : w4.ownsRow w2.heap.size 56 3 v2 (joinG c e).length (gFlat (joinG c e)) := by rw [HG.out, List.length_append, gFlat_append]; exact ho4
  have R4 := Lib.hid (show Box w4 w.heap.size c from (hb4.block w.heap.size (by omega)).trans (R3.out.alloc _))
  have Z4 := Lib.hid (show Box w4 (w.heap.size + 1 + 1) conZ from (hb4.block (w.heap.size + 1 + 1) (by omega)).trans (Z3.out.alloc _))
  have HB4 := Lib.hid ((HB3.out.alloc HB3.out.size (.cells #[.int .i64 e.acc, .int .i64 e.item, .int .u64 e.coins, .int .u64 e.price, .slice e.wa e.ws.length e.wc] 44)).trans (hb4.mono (by omega)))
  obtain ⟨ad, cap, rfl, hn0, hsl, hle⟩ := owns_slice ho4
  have HO4 := Lib.hid ho4
  have HN4 := Lib.hid hn0
  clear hb4 ho4 hn0 hsl
  clear p0 p1 p2 p3 p4 p5 p6 p7 p8 p9 p10
  clear q0 q1 q2 q3 q4
  go_wp2_with (refine wpList_store_lit 23 w.heap.size 10 #[.int .i64 c.num, .int .i64 c.kind, .int .i64 c.by', .int .i64 c.dl, .int .i64 c.to, .int .i64 c.want, .int .u64 c.price, .int .u64 c.reserve, .int .u64 c.step, .int .i64 c.of', .slice none 0 0] (.slice none 0 0) R4.out sz23 (Nat.le_of_ble_eq_true rfl) rfl rfl ?_ ?_ ?_; exact rfl; exact rfl; intro w5 hp5; have R5 := Lib.hid (show Box w5 w.heap.size c.less from hp5.at'); have Z5 := Lib.hid (show Box w5 (w.heap.size + 1 + 1) conZ from hp5.row Z4.out (by omega)))
  have HB5 := Lib.hid (hp5.below HB4.out HB4.out.size (Nat.le_refl _))
  have HO5 := Lib.hid (hp5.only.owns HO4.out (fun k hk => by
    have := (HO4.out.lt k hk).1
    omega))
  clear hp5
  refine wp_region_flag 8 (JF w.heap.size (w.heap.size + 1 + 1) c w5) isStore (by kernel_rfl) (by kernel_rfl) (by kernel_rfl) (fun n => ⟨Only.of_below (below_drawn (Below.refl _ _) n), R5.out, Z5.out⟩) ?_
  simp only [List.take_succ_cons, List.take_zero]
  refine wpFlag_cons (.agg #[.int .i64 c.num, .int .i64 c.kind, .int .i64 c.by', .int .i64 c.dl, .int .i64 c.to, .int .i64 c.want, .int .u64 c.price, .int .u64 c.reserve, .int .u64 c.step, .int .i64 c.of', .slice none 0 0]) rfl (fun b Wx hw => by cases b <;> exact inv_load_row 25 _ rfl w.heap.size rfl 25 _ _ _ hw.2.1 Try.underlying25 rfl sz25 hw) ?_
  iterate 6
    apply wpFlag_cons
    · rfl
    · intro b Wx hw
      cases b <;> (go_simp; exact ⟨hw, rfl⟩)
  simp only [Act.put, List.setIfInBounds_toArray, List.set_cons_zero, List.set_cons_succ]
  refine wpFlag_cons undef rfl (fun b Wx hw => by
    have hst : ∀ W, Put Wx (w.heap.size + 1 + 1) (.cells #[.int .i64 c.num, .int .i64 c.kind, .int .i64 c.by', .int .i64 c.dl, .int .i64 c.to, .int .i64 c.want, .int .u64 c.price, .int .u64 c.reserve, .int .u64 c.step, .int .i64 c.of', .slice none 0 0] 25) W → JF w.heap.size (w.heap.size + 1 + 1) c w5 true W := fun W hp =>
      ⟨hw.1.trans hp.only (fun k hk => .inl hk), hp.row hw.2.1 (by omega), hp.at'⟩
    cases b
    · show InvRun Try.prog (JF w.heap.size (w.heap.size + 1 + 1) c w5 true) _ _
      have hr : Wx.heap[w.heap.size + 1 + 1]? = some (.cells #[.int .i64 0, .int .i64 0, .int .i64 0, .int .i64 0, .int .i64 0, .int .i64 0, .int .u64 0, .int .u64 0, .int .u64 0, .int .i64 0, .slice none 0 0] 25) := hw.2.2
      refine inv_store_lit 25 (w.heap.size + 1 + 1) 0 #[.int .i64 c.num, .int .i64 c.kind, .int .i64 c.by', .int .i64 c.dl, .int .i64 c.to, .int .i64 c.want, .int .u64 c.price, .int .u64 c.reserve, .int .u64 c.step, .int .i64 c.of', .slice none 0 0] (.agg #[.int .i64 c.num, .int .i64 c.kind, .int .i64 c.by', .int .i64 c.dl, .int .i64 c.to, .int .i64 c.want, .int .u64 c.price, .int .u64 c.reserve, .int .u64 c.step, .int .i64 c.of', .slice none 0 0]) hr sz25 (Nat.le_of_ble_eq_true rfl) rfl rfl ?_ ?_ hst
      · exact rfl
      · exact rfl
    · show InvRun Try.prog (JF w.heap.size (w.heap.size + 1 + 1) c w5 true) _ _
      have hr : Wx.heap[w.heap.size + 1 + 1]? = some (.cells #[.int .i64 c.num, .int .i64 c.kind, .int .i64 c.by', .int .i64 c.dl, .int .i64 c.to, .int .i64 c.want, .int .u64 c.price, .int .u64 c.reserve, .int .u64 c.step, .int .i64 c.of', .slice none 0 0] 25) := hw.2.2
      refine inv_store_lit 25 (w.heap.size + 1 + 1) 0 #[.int .i64 c.num, .int .i64 c.kind, .int .i64 c.by', .int .i64 c.dl, .int .i64 c.to, .int .i64 c.want, .int .u64 c.price, .int .u64 c.reserve, .int .u64 c.step, .int .i64 c.of', .slice none 0 0] (.agg #[.int .i64 c.num, .int .i64 c.kind, .int .i64 c.by', .int .i64 c.dl, .int .i64 c.to, .int .i64 c.want, .int .u64 c.price, .int .u64 c.reserve, .int .u64 c.step, .int .i64 c.of', .slice none 0 0]) hr sz25 (Nat.le_of_ble_eq_true rfl) rfl rfl ?_ ?_ hst
      · exact rfl
      · exact rfl) ?_
  intro w6 hf
  obtain ⟨hon, hbc, hbz⟩ := hf
  have HB6 := Lib.hid (HB5.out.trans (hon.below HB5.out.size (fun k hk => by omega)))
  have HO6 := Lib.hid (hon.owns HO5.out (fun k hk => by
    have := (HO5.out.lt k hk).1
    omega))
  have Z6 := Lib.hid (show Box w6 (w.heap.size + 1 + 1) c.less from hbz)
  clear hon hbc hbz
  simp only [Act.put]
  go_wp2
  have HCC := Lib.hid (show joinC c e = c.less from if_pos HJ.out)
  have hz6 : w6.heap[w.heap.size + 1 + 1]? = some (.cells #[.int .i64 c.num, .int .i64 c.kind, .int .i64 c.by', .int .i64 c.dl, .int .i64 c.to, .int .i64 c.want, .int .u64 c.price, .int .u64 c.reserve, .int .u64 c.step, .int .i64 c.of', .slice none 0 0] 25) := Z6.out
  refine bodyPost_ret (results_row_tmp3 Try.results26 _ _ (w.heap.size + 1 + 1) 25 _ _ _ rfl hz6 Try.underlying25 rfl sz25) rfl ⟨ad, cap, ?_, owns_base HO6.out (by omega), HN4.out, HB6.out⟩
  rw [HCC.out, HJ.out]
  rfl
end Go.Proofs.Ytiafhgcnjgpeaaa
