/-
  Layer 20: Join, the document's: an entry that is taken.
-/
import Derived.Test.YtiafhgcnjgpeaaaWl
import Derived.Test.YtiafhgcnjgpeaaaXf
namespace Go.Proofs.Ytiafhgcnjgpeaaa
open Go.RowKit Go.K
set_option linter.unusedVariables false
set_option linter.unusedSimpArgs false

/-- The answer of the document's Join. -/
def RJoinAns (c : Con) (e : Ent) (w : World) (r : Ending) (w' : World) : Prop := ∃ v, r = .returned (.tuple #[(joinC c e).agg, v, .bool (decide (joinV c e = 0)), .int .i64 (joinV c e)]) ∧
  w'.ownsRow w.heap.size 56 3 v (joinG c e).length (gFlat (joinG c e)) ∧ Below w.heap.size w w'
theorem rjoin_no {c : Con} {e : Ent} {w w' : World} {r : Ending} (v : Int) (hv : joinV c e = v) (h : v ≠ 0) (hr : r = .returned (.tuple #[conZ.agg, .slice none 0 0, .bool false, .int .i64 v])) (hb : Below w.heap.size w w') : RJoinAns c e w r w' := by
  subst hv
  refine ⟨.slice none 0 0, ?_, ?_, hb⟩
  · rw [hr, joinC_no h, decide_eq_false h]
  · rw [joinG_no h]; exact World.ownsRow_nil _ _ _ _
set_option maxRecDepth 100000 in
set_option maxHeartbeats 2000000 in
theorem rjoin_yes (c : Con) (e : Ent) (w : World) (hc : ConOk w c) (he : EntOk w e) (hj : joinV c e = 0) : Calls Try.prog 27 #[c.agg, e.agg] w (RJoinAns c e w) := by
  have HC := Lib.hid hc
  have HE := Lib.hid he
  have HK17 := Lib.hid (fun V (h : Below w.heap.size w V) => rterms_any c V (hc.kept h))
  have HK40 := Lib.hid (fun V : World => rbare_any e V)
  obtain ⟨h0, h1, h2, h3, h4, h5⟩ := joinV_0 hj
  have HJ := Lib.hid hj
  have HT0 := Lib.hid h0
  have t0 : (termsV c != 0) = false := by simpa using h0
  have t1 : (e.acc == c.by') = false := by simpa using h1
  have t2 : (e.acc != c.to) = false := by simpa using h2
  have t4 : (e.item != c.want) = false := by simpa using h4
  have t5 : (e.coins != c.price) = false := by simpa using h5
  clear hc he hj h0 h1 h2 h4 h5
  unfold Con.agg Ent.agg at *
  go_enter Try.func27, Try.ntmps27
  have HB0 := Lib.hid ((((Below.refl w.heap.size w).alloc (Nat.le_refl _) (.cells #[.int .i64 c.num, .int .i64 c.kind, .int .i64 c.by', .int .i64 c.dl, .int .i64 c.to, .int .i64 c.want, .int .u64 c.price, .int .u64 c.reserve, .int .u64 c.step, .int .i64 c.of', .slice c.ea c.es.length c.ec] 25)).alloc (by simp) (.cells #[.int .i64 e.acc, .int .i64 e.item, .int .u64 e.coins, .int .u64 e.price, .slice e.wa e.ws.length e.wc] 44)).alloc (by simp; omega) (.cells #[.int .i64 0, .int .i64 0, .int .i64 0, .int .i64 0, .int .i64 0, .int .i64 0, .int .u64 0, .int .u64 0, .int .u64 0, .int .i64 0, .slice none 0 0] 25))
  go_wp2_with fail
  with_reducible refine (HK17.out _ HB0.out).mono ?_
  rintro r0 w1 ⟨rfl, hb1⟩
  have R1 := Lib.hid (show Box w1 w.heap.size c from row_kept (alloc_old (alloc_old (alloc_at rfl))) hb1)
  have E1 := Lib.hid (show EBox w1 (w.heap.size + 1) e from row_kept (alloc_old (alloc_at (by simp))) hb1)
  have Z1 := Lib.hid (show Box w1 (w.heap.size + 1 + 1) conZ from row_kept (alloc_at (by simp)) hb1)
  have HB1 := Lib.hid (HB0.out.trans (hb1.mono (by simp; omega)))
  clear hb1
  obtain ⟨p0, p1, p2, p3, p4, p5, p6, p7, p8, p9, p10⟩ := R1.out.cells
  obtain ⟨q0, q1, q2, q3, q4⟩ := E1.out.cells
  rw [HT0.out] at t0 ⊢
  go_wp2_with fail
  with_reducible refine (HK40.out _).mono ?_
  rintro r0 w2 ⟨rfl, hb2⟩
  have R2 := Lib.hid (R1.out.kept hb2)
  have E2 := Lib.hid (E1.out.kept hb2)
  have Z2 := Lib.hid (Z1.out.kept hb2)
  have HB2 := Lib.hid (HB1.out.trans (hb2.mono HB1.out.size))
  clear hb2
  clear p0 p1 p2 p3 p4 p5 p6 p7 p8 p9 p10
  clear q0 q1 q2 q3 q4
  obtain ⟨p0, p1, p2, p3, p4, p5, p6, p7, p8, p9, p10⟩ := R2.out.cells
  obtain ⟨q0, q1, q2, q3, q4⟩ := E2.out.cells
  obtain ⟨x, hx⟩ := terms_one HT0.out
  obtain ⟨ob, oo, hea, f0, f1, f2, f3, f4⟩ := (HC.out.kept HB2.out).one hx
  have k10 : w2.cell? ⟨w.heap.size, 10, none⟩ = some (.slice (some ⟨ob, oo, none⟩) 1 c.ec) := by rw [p10, hx, hea]; rfl
  have HX := Lib.hid hx
  have HEA := Lib.hid hea
  have L2 := Lib.hid (show w.heap.size + 1 + 1 < w2.heap.size from Z2.out.lt)
  have HK43 := Lib.hid (fun V : World => gives_any x c.to V)
  have HK44 := Lib.hid (fun V : World => gives_any e c.by' V)
  unfold Ent.agg at HK43 HK44
  clear hx hea
  go_wp2_with fail
  clear p0 p1 p2 p3 p5 p6 p7 p8 p9 p10
  clear q0 q1 q2 q3 q4
  go_region_held3 (fun V => V.cell? ⟨w.heap.size, 10, none⟩ = some (.slice (some ⟨ob, oo, none⟩) 1 c.ec) ∧ V.cell? ⟨w.heap.size, 4, none⟩ = some (.int .i64 c.to) ∧ V.cell? ⟨ob, oo, none⟩ = some (.int .i64 x.acc) ∧ V.cell? ⟨ob, oo + 1, none⟩ = some (.int .i64 x.item) ∧ V.cell? ⟨ob, oo + 2, none⟩ = some (.int .u64 x.coins) ∧ V.cell? ⟨ob, oo + 3, none⟩ = some (.int .u64 x.price) ∧ V.cell? ⟨ob, oo + 4, none⟩ = some (.slice x.wa x.ws.length x.wc)) (go_keep)
    ((go_at_call 43; with_reducible refine (HK43.out _).mono ?_; rintro r0 w3 ⟨v1, rfl, ho1, hbg⟩; have hb3 := below_of_drew hbg; have k10 := below_cell hb3 k10; have p4 := below_cell hb3 p4; have f0 := below_cell hb3 f0; have f1 := below_cell hb3 f1; have f2 := below_cell hb3 f2; have f3 := below_cell hb3 f3; have f4 := below_cell hb3 f4))
  have R3 := Lib.hid (show Box w3 w.heap.size c from R2.out.kept hb3)
  have E3 := Lib.hid (show EBox w3 (w.heap.size + 1) e from E2.out.kept hb3)
  have Z3 := Lib.hid (show Box w3 (w.heap.size + 1 + 1) conZ from Z2.out.kept hb3)
  have HB3 := Lib.hid (HB2.out.trans (hb3.mono HB2.out.size))
  have L3 := Lib.hid hb3.size
  have HO3 := Lib.hid ho1
  clear hb3 hbg ho1 k10 p4 f0 f1 f2 f3 f4
  obtain ⟨p0, p1, p2, p3, p4, p5, p6, p7, p8, p9, p10⟩ := R3.out.cells
  obtain ⟨q0, q1, q2, q3, q4⟩ := E3.out.cells
  go_wp2_with fail
  with_reducible refine (HK44.out _).mono ?_
  rintro r0 w4 ⟨v2, rfl, ho4, hb4⟩
  have R4 := Lib.hid (show Box w4 w.heap.size c from R3.out.kept hb4)
  have Z4 := Lib.hid (show Box w4 (w.heap.size + 1 + 1) conZ from Z3.out.kept hb4)
  have HB4 := Lib.hid (HB3.out.trans (hb4.mono HB3.out.size))
  have L4 := Lib.hid hb4.size
  have HV1 := Lib.hid (owns_base (owns_below (B := 0) HO3.out hb4) (show w.heap.size ≤ _ from by have := L2.out; simp only [World.drew] at *; omega))
  obtain ⟨ad, cap, rfl, hn0, hsl, hle⟩ := owns_slice ho4
  clear ho4 hb4
  clear p0 p1 p2 p3 p4 p5 p6 p7 p8 p9 p10 q0 q1 q2 q3 q4
  have HL1 := Lib.hid (gV_length_le x c.to)
  have HL2 := Lib.hid (gV_length_le e c.by')
  have HB40 := Lib.hid HB4.out.size
  have B1 := Lib.hid (show (gV x c.to).length + (gV e c.by').length ≤ maxLen from by have h1 := HL1.out; have h2 := HL2.out; unfold maxLen; omega)
  have B2 := Lib.hid (show ((gV x c.to).length + (gV e c.by').length) * 24 ≤ 140737488355328 from by have h1 := HL1.out; have h2 := HL2.out; omega)
  have HN0 := Lib.hid hn0
  have HSL := Lib.hid hsl
  have HG := Lib.hid (show joinG c e = gV x c.to ++ gV e c.by' by unfold joinG; rw [if_pos HJ.out, HX.out]; simp [giveV])
  have HNB := Lib.hid (show ∀ k, v1.ownBlock = some k → w2.heap.size ≤ k from fun k hk => (HO3.out.lt k hk).1)
  clear hn0 hsl hle
  go_wp2_with (at_builtin; refine wpList_append_sl_at rfl _ _ 37 rfl w.heap.size 56 (.agg #[.int .i64 0, .int .i64 0, .int .u64 0]) 3 24 Try.underlying37 info56' rfl (by decide) v1 _ _ rfl HV1.out ad _ cap _ rfl HN0.out (gFlat_length _) HSL.out (oneCell_gFlat _) B1.out B2.out HB40.out ?a5)
  intro v3 w5 ho5 hg5 hl5
  have L2' := L2.out
  have L3' : w2.heap.size ≤ w3.heap.size := L3.out
  have L4' := L4.out
  have HO5 := Lib.hid (show w5.ownsRow w.heap.size 56 3 v3 (joinG c e).length (gFlat (joinG c e)) by rw [HG.out, List.length_append, gFlat_append]; exact ho5)
  have R5 := Lib.hid (show Box w5 w.heap.size c from row_past R4.out hg5 (fun h => by have := HNB.out _ h.symm; omega))
  have Z5 := Lib.hid (show Box w5 (w.heap.size + 1 + 1) conZ from row_past Z4.out hg5 (fun h => by have := HNB.out _ h.symm; omega))
  have HB5 := Lib.hid (HB4.out.grown hg5 HB4.out.size (fun k hk => by have := HNB.out k hk; omega))
  have HNB3 := Lib.hid (show ∀ k, v3.ownBlock = some k → w2.heap.size ≤ k from fun k hk => by
    rcases hl5 with h | h
    · exact HNB.out k (h ▸ hk)
    · rw [h] at hk; injection hk with hk; omega)
  have L5 := Lib.hid hg5.size
  clear ho5 hg5 hl5
  have r5 : w5.heap[w.heap.size]? = some (.cells #[.int .i64 c.num, .int .i64 c.kind, .int .i64 c.by', .int .i64 c.dl, .int .i64 c.to, .int .i64 c.want, .int .u64 c.price, .int .u64 c.reserve, .int .u64 c.step, .int .i64 c.of', .slice c.ea c.es.length c.ec] 25) := R5.out
  obtain ⟨p0, p1, p2, p3, p4, p5, p6, p7, p8, p9, p10⟩ := cells11 r5
  have z5 : w5.heap[w.heap.size + 1 + 1]? = some (.cells #[.int .i64 0, .int .i64 0, .int .i64 0, .int .i64 0, .int .i64 0, .int .i64 0, .int .u64 0, .int .u64 0, .int .u64 0, .int .i64 0, .slice none 0 0] 25) := Z5.out
  go_wp2_with (refine wpList_store_lit 25 (w.heap.size + 1 + 1) 0 #[.int .i64 c.num, .int .i64 c.kind, .int .i64 c.by', .int .i64 c.dl, .int .i64 c.to, .int .i64 c.want, .int .u64 c.price, .int .u64 c.reserve, .int .u64 c.step, .int .i64 c.of', .slice none 0 0] (.agg #[.int .i64 c.num, .int .i64 c.kind, .int .i64 c.by', .int .i64 c.dl, .int .i64 c.to, .int .i64 c.want, .int .u64 c.price, .int .u64 c.reserve, .int .u64 c.step, .int .i64 c.of', .slice none 0 0]) (alloc_old z5) sz25 (Nat.le_of_ble_eq_true rfl) rfl rfl ?_ ?_ ?_; exact rfl; exact rfl; intro w9 hp9)
  have HB6 := Lib.hid (HB5.out.alloc HB5.out.size (.cells #[.int .i64 c.num, .int .i64 c.kind, .int .i64 c.by', .int .i64 c.dl, .int .i64 c.to, .int .i64 c.want, .int .u64 c.price, .int .u64 c.reserve, .int .u64 c.step, .int .i64 c.of', .slice none 0 0] 25))
  have HB9 := Lib.hid (hp9.below HB6.out HB6.out.size (by omega))
  have HO9 := Lib.hid (hp9.only.owns (HO5.out.alloc _) (fun k hk => by have := HNB3.out k hk; omega))
  have HCC := Lib.hid (show joinC c e = c.less from if_pos HJ.out)
  refine bodyPost_ret (results_row_tmp3 Try.results27 _ _ (w.heap.size + 1 + 1) 25 _ _ _ rfl hp9.at' Try.underlying25 rfl sz25) rfl ⟨v3, ?_, HO9.out, HB9.out⟩
  rw [HCC.out, HJ.out]
  rfl
end Go.Proofs.Ytiafhgcnjgpeaaa
