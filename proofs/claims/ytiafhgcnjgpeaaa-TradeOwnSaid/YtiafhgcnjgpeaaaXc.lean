/-
  Layer 20: a lent contract is as it was, with all marks.
-/
import Derived.Test.YtiafhgcnjgpeaaaXb
namespace Go.Proofs.Ytiafhgcnjgpeaaa
open Go.RowKit Go.K
set_option linter.unusedVariables false
set_option linter.unusedSimpArgs false

set_option maxRecDepth 100000 in
set_option maxHeartbeats 4000000 in
theorem kept_true (l c : Con) (B : Nat) (w : World) (hl : MarkC B w l) (hc : ConOk w c) (hd : l.d = c.d) :
    Calls Try.prog 15 #[l.agg, c.agg] w fun r w' => r = .returned (.bool true) ∧ Below w.heap.size w w' := by
  have HL := Lib.hid hl
  have HS := Lib.hid (fun V (h : Below w.heap.size w V) => same_true l c V (hl.ok.kept h) (hc.kept h) hd)
  obtain ⟨g, hea, hge, hle, hsl⟩ := hl.at'
  have HSL := Lib.hid hsl
  clear hl hc hd hsl
  obtain ⟨n, k, b, d, t, wn, p, r, s, o, ea, ec, es⟩ := l
  simp only at hea hle
  subst hea
  have hm : es.length ≤ 2513169434843 := HL.out.mx
  obtain ⟨n', k', b', d', t', wn', p', r', s', o', ea', ec', es'⟩ := c
  unfold Con.agg at HS ⊢
  simp only at HS HSL ⊢
  go_enter Try.func15, Try.ntmps15
  have HB := Lib.hid (((Below.refl w.heap.size w).alloc (Nat.le_refl _) (.cells #[.int .i64 n, .int .i64 k, .int .i64 b, .int .i64 d, .int .i64 t, .int .i64 wn, .int .u64 p, .int .u64 r, .int .u64 s, .int .i64 o, .slice (some ⟨g, 0, none⟩) es.length ec] 25)).alloc (by simp) (.cells #[.int .i64 n', .int .i64 k', .int .i64 b', .int .i64 d', .int .i64 t', .int .i64 wn', .int .u64 p', .int .u64 r', .int .u64 s', .int .i64 o', .slice ea' es'.length ec'] 25))
  go_wp2_with (go_at_call 14; refine (HS.out _ HB.out).mono ?_; rintro e w1 ⟨rfl, hb1⟩; have hr1 : w1.heap[w.heap.size]? = some (.cells #[.int .i64 n, .int .i64 k, .int .i64 b, .int .i64 d, .int .i64 t, .int .i64 wn, .int .u64 p, .int .u64 r, .int .u64 s, .int .i64 o, .slice (some ⟨g, 0, none⟩) es.length ec] 25) := row_kept (alloc_old (alloc_at rfl)) hb1)
  have HB1 := Lib.hid (HB.out.trans (hb1.mono (by simp; omega)))
  go_loopw [5] (fun i wr => ∃ j : Nat, j ≤ es.length ∧ i = .int .i64 j ∧ Below w.heap.size w wr ∧
      wr.heap[w.heap.size]? = some (.cells #[.int .i64 n, .int .i64 k, .int .i64 b, .int .i64 d, .int .i64 t, .int .i64 wn, .int .u64 p, .int .u64 r, .int .u64 s, .int .i64 o, .slice (some ⟨g, 0, none⟩) es.length ec] 25)) (fun i _ => es.length - (intOf i).toNat)
  case atStart => exact ⟨0, by omega, rfl, HB1.out, hr1⟩
  case round =>
    clear HB HB1 hb1 hr1 HS
    obtain ⟨j, hj, rfl, hb, hr⟩ := hrel
    have HB := Lib.hid hb
    have HR := Lib.hid hr
    have z1 : wr.cell? ⟨w.heap.size, 10, none⟩ = some (.slice (some ⟨g, 0, none⟩) es.length ec) := by rw [cell_of_row _ _ _ _ _ _ hr]; rfl
    clear hb hr
    by_cases hlt : j < es.length
    · have t0 : decide ((j : Int) < (es.length : Int)) = true := by simp; omega
      have i1 : (j : Int) < (es.length : Int) := by omega
      obtain ⟨ob, oo, hea, f0, f1, f2, f3, f4⟩ := (HL.out.ok.kept HB.out).ent j hlt
      cases hea
      simp only [Nat.zero_add] at f0 f1 f2 f3 f4
      have HK := Lib.hid (marks_true es[j] B wr ((HL.out.ents _ (List.getElem_mem hlt)).kept HB.out))
      generalize es[j] = x at *
      obtain ⟨xa, xi, xc, xp, xw, xk, xs⟩ := x
      unfold Ent.agg at HK
      simp only at HK f0 f1 f2 f3 f4
      go_wp2_with (go_at_call 29; refine HK.out.mono ?_; rintro e w2 ⟨rfl, hb2⟩)
      have HB2 := Lib.hid (HB.out.trans (hb2.mono HB.out.size))
      have HR2 := Lib.hid (row_kept HR.out hb2)
      clear hb2
      go_wp2
      go_roundw
      case rel => exact ⟨j + 1, by omega, by go_num, HB2.out, HR2.out⟩
      case measure => simp [intOf]; omega
    · have t0 : decide ((j : Int) < (es.length : Int)) = false := by simp; omega
      obtain ⟨b, off, he, hc⟩ := HSL.out.kept HB.out (fun e => by rw [eFlat_append] at e; have := (List.append_eq_nil_iff.1 e).2; cases this)
      cases he
      have h1 := hc (es.length * 5) (by rw [eFlat_length, List.length_append]; simp)
      have h2 := hc ((es.length + 1) * 5) (by rw [eFlat_length, List.length_append]; simp)
      have e1 : (eFlat (es ++ [mk73, mk74]))[es.length * 5]? = some (.int .i64 (-73)) := by
        have := eFlat_get (es ++ [mk73, mk74]) es.length 0 (by simp) (by omega)
        rw [Nat.add_zero] at this
        rw [this, List.getElem_append_right (Nat.le_refl _)]
        simp [Ent.cells, mk73]
      have e2 : (eFlat (es ++ [mk73, mk74]))[(es.length + 1) * 5]? = some (.int .i64 (-74)) := by
        have := eFlat_get (es ++ [mk73, mk74]) (es.length + 1) 0 (by simp) (by omega)
        rw [Nat.add_zero] at this
        rw [this, List.getElem_append_right (by omega)]
        simp [Ent.cells, mk74]
      rw [e1] at h1
      rw [e2] at h2
      simp only [Nat.zero_add] at h1 h2
      clear e1 e2 hc
      go_wp2
      go_ret
      exact ⟨rfl, HB.out⟩
end Go.Proofs.Ytiafhgcnjgpeaaa
