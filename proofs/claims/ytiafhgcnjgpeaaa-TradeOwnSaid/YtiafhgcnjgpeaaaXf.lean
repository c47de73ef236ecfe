/-
  Layer 20: the mirror of a contract, the document's.
-/
import Derived.Test.YtiafhgcnjgpeaaaXe
namespace Go.Proofs.Ytiafhgcnjgpeaaa
open Go.RowKit Go.K
set_option linter.unusedVariables false
set_option linter.unusedSimpArgs false

set_option maxRecDepth 100000 in
set_option maxHeartbeats 4000000 in
theorem rmirror_any (c : Con) (w : World) (hc : ConOk w c) :
    Calls Try.prog 12 #[c.agg] w fun r w' => ∃ m : Con, r = .returned (.tuple #[m.agg, .int .i64 (termsV c)]) ∧ m.d = mirD c ∧ NewC w.heap.size w' m ∧ Below w.heap.size w w' := by
  have HT := Lib.hid (fun V (h : Below w.heap.size w V) => rterms_any c V (hc.kept h))
  have HC := Lib.hid hc
  clear hc
  obtain ⟨n, k, b, d, t, wn, p, r, s, o, ea, ec, es⟩ := c
  have HO := Lib.hid (fun h => terms_one (c := ⟨n, k, b, d, t, wn, p, r, s, o, ea, ec, es⟩) h)
  unfold Con.agg at *
  simp only at *
  go_enter Try.func12, Try.ntmps12
  have HB := Lib.hid (((Below.refl w.heap.size w).alloc (Nat.le_refl _) (.cells #[.int .i64 n, .int .i64 k, .int .i64 b, .int .i64 d, .int .i64 t, .int .i64 wn, .int .u64 p, .int .u64 r, .int .u64 s, .int .i64 o, .slice ea es.length ec] 25)).alloc (by simp) (.cells #[.int .i64 0, .int .i64 0, .int .i64 0, .int .i64 0, .int .i64 0, .int .i64 0, .int .u64 0, .int .u64 0, .int .u64 0, .int .i64 0, .slice none 0 0] 25))
  go_wp2_with fail
  refine (HT.out _ HB.out).mono ?_
  rintro e w1 ⟨rfl, hb1⟩
  have q1 : w1.heap[w.heap.size]? = some (.cells #[.int .i64 n, .int .i64 k, .int .i64 b, .int .i64 d, .int .i64 t, .int .i64 wn, .int .u64 p, .int .u64 r, .int .u64 s, .int .i64 o, .slice ea es.length ec] 25) := row_kept (alloc_old (alloc_at rfl)) hb1
  have q2 : w1.heap[w.heap.size + 1]? = some (.cells #[.int .i64 0, .int .i64 0, .int .i64 0, .int .i64 0, .int .i64 0, .int .i64 0, .int .u64 0, .int .u64 0, .int .u64 0, .int .i64 0, .slice none 0 0] 25) := row_kept (alloc_at (by simp)) hb1
  have HB1 := Lib.hid (HB.out.trans (hb1.mono (by simp; omega)))
  clear hb1
  by_cases h0 : termsV ⟨n, k, b, d, t, wn, p, r, s, o, ea, ec, es⟩ = 0
  case neg =>
    have t0 : (termsV ⟨n, k, b, d, t, wn, p, r, s, o, ea, ec, es⟩ != 0) = true := by simpa using h0
    have HM := Lib.hid (show mirD ⟨n, k, b, d, t, wn, p, r, s, o, ea, ec, es⟩ = conZ.d from if_neg h0)
    clear h0
    go_wp2_with (refine wpList_store_lit 25 (w.heap.size + 1) 0 #[.int .i64 0, .int .i64 0, .int .i64 0, .int .i64 0, .int .i64 0, .int .i64 0, .int .u64 0, .int .u64 0, .int .u64 0, .int .i64 0, .slice none 0 0] (.agg #[.int .i64 0, .int .i64 0, .int .i64 0, .int .i64 0, .int .i64 0, .int .i64 0, .int .u64 0, .int .u64 0, .int .u64 0, .int .i64 0, .slice none 0 0]) q2 sz25 (Nat.le_of_ble_eq_true rfl) rfl rfl ?_ ?_ ?_; exact rfl; exact rfl; intro w2 hp2)
    have HB2 := hp2.below HB1.out HB1.out.size (by omega)
    exact bodyPost_ret (results_row_tmp Try.results12 _ _ (w.heap.size + 1) 25 _ _ _ rfl hp2.at' Try.underlying25 rfl sz25) rfl ⟨conZ, rfl, HM.out.symm, newC_conZ _ _, HB2⟩
  case pos =>
    have t0 : (termsV ⟨n, k, b, d, t, wn, p, r, s, o, ea, ec, es⟩ != 0) = false := by simpa using h0
    obtain ⟨x, hx⟩ := HO.out h0
    try simp only at hx
    subst hx
    have HM := Lib.hid (show mirD ⟨n, k, b, d, t, wn, p, r, s, o, ea, ec, [x]⟩ = ((n, k, t, d, b), (x.item, x.coins, r, s, o), [(t, wn, p, 0, [])]) from if_pos h0)
    have H0 := Lib.hid h0
    clear h0
    obtain ⟨ob, oo, hea, f0, f1, f2, f3, f4⟩ := (HC.out.kept HB1.out).one rfl
    simp only at hea
    subst hea
    obtain ⟨xa, xi, xc, xp, xw, xk, xs⟩ := x
    try simp only at f0 f1 f2 f3 f4 HM
    try simp only [List.length_cons, List.length_nil, Nat.zero_add] at *
    have HL1 := Lib.hid (show w.heap.size + 2 ≤ w1.heap.size from lt_row q2)
    have HQ := Lib.hid (And.intro q1 q2)
    have X1 : ∀ X, (w1.alloc X).cell? ⟨w.heap.size, 2, none⟩ = some (.int .i64 b) := fun X => by rw [cell_of_row _ _ _ _ _ _ (alloc_old (p := X) q1)]; rfl
    have X2 : ∀ X, (w1.alloc X).cell? ⟨w.heap.size, 4, none⟩ = some (.int .i64 t) := fun X => by rw [cell_of_row _ _ _ _ _ _ (alloc_old (p := X) q1)]; rfl
    have X3 : ∀ X, (w1.alloc X).cell? ⟨w.heap.size, 5, none⟩ = some (.int .i64 wn) := fun X => by rw [cell_of_row _ _ _ _ _ _ (alloc_old (p := X) q1)]; rfl
    have X4 : ∀ X, (w1.alloc X).cell? ⟨w.heap.size, 6, none⟩ = some (.int .u64 p) := fun X => by rw [cell_of_row _ _ _ _ _ _ (alloc_old (p := X) q1)]; rfl
    have X5 : ∀ X, (w1.alloc X).cell? ⟨w.heap.size, 10, none⟩ = some (.slice (some ⟨ob, oo, none⟩) 1 ec) := fun X => by rw [cell_of_row _ _ _ _ _ _ (alloc_old (p := X) q1)]; rfl
    have X6 : ∀ X, (w1.alloc X).cell? ⟨ob, oo + 1, none⟩ = some (.int .i64 xi) := fun X => below_cell ((Below.refl _ _).alloc (Nat.le_refl _) _) f1
    have X7 : ∀ X, (w1.alloc X).cell? ⟨ob, oo + 2, none⟩ = some (.int .u64 xc) := fun X => below_cell ((Below.refl _ _).alloc (Nat.le_refl _) _) f2
    obtain ⟨e0, e1, e2, e3, e4, e5, e6, e7, e8, e9, e10⟩ := cells11 q1
    clear q1 q2 f0 f1 f2 f3 f4
    go_wp2_with (refine wpList_store_lit 25 (w.heap.size + 1) 0 #[.int .i64 n, .int .i64 k, .int .i64 t, .int .i64 d, .int .i64 b, .int .i64 xi, .int .u64 xc, .int .u64 r, .int .u64 s, .int .i64 o, .slice (some ⟨w1.heap.size + 1, 0, none⟩) 1 1] (.agg #[.int .i64 n, .int .i64 k, .int .i64 t, .int .i64 d, .int .i64 b, .int .i64 xi, .int .u64 xc, .int .u64 r, .int .u64 s, .int .i64 o, .slice (some ⟨w1.heap.size + 1, 0, none⟩) 1 1]) (alloc_old (alloc_old HQ.out.2)) sz25 (Nat.le_of_ble_eq_true rfl) rfl rfl ?_ ?_ ?_; exact rfl; exact rfl; intro w8 hp8)
    have hl := HL1.out
    have hb2 := (HB1.out.alloc HB1.out.size (.cells #[.int .i64 n, .int .i64 k, .int .i64 t, .int .i64 d, .int .i64 b, .int .i64 xi, .int .u64 xc, .int .u64 r, .int .u64 s, .int .i64 o, .slice (some ⟨w1.heap.size + 1, 0, none⟩) 1 1] 25)).alloc (HB1.out.alloc HB1.out.size _).size (.cells #[.int .i64 t, .int .i64 wn, .int .u64 p, .int .u64 0, .slice none 0 0] 44)
    have HB8 := hp8.below hb2 hb2.size (by omega)
    have hx8 := hp8.row (n := w1.heap.size + 1) (alloc_at (by simp)) (by omega)
    refine bodyPost_ret (results_row_tmp Try.results12 _ _ (w.heap.size + 1) 25 _ _ _ rfl hp8.at' Try.underlying25 rfl sz25) rfl ⟨mirC ⟨n, k, b, d, t, wn, p, r, s, o, some ⟨ob, oo, none⟩, ec, [⟨xa, xi, xc, xp, xw, xk, xs⟩]⟩ ⟨xa, xi, xc, xp, xw, xk, xs⟩ (w1.heap.size + 1), ?_, HM.out.symm, newC_mir hx8 (by omega), HB8⟩
    rw [H0.out]; rfl
end Go.Proofs.Ytiafhgcnjgpeaaa
