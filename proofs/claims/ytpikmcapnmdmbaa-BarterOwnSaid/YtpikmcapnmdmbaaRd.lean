/-
  Layer 22: a contract that was lent is as it was, with all marks.
-/
import Derived.Test.YtpikmcapnmdmbaaRc
namespace Go.Proofs.Ytpikmcapnmdmbaa
open Go.RowKit Go.K
set_option linter.unusedVariables false
set_option linter.unusedSimpArgs false
theorem MarkE.mark {B : Nat} {W V : World} {x : Ent} (hx : MarkE B W x) (hb : Below W.heap.size W V) : ∃ g, x.wa = some ⟨g, 0, none⟩ ∧ x.ws.length + 1 ≤ x.wc ∧ V.cell? ⟨g, x.ws.length, none⟩ = some (.int .i64 (-77)) := by
  obtain ⟨g, hw, hg, hle, hs⟩ := hx.at'
  refine ⟨g, hw, hle, ?_⟩
  obtain ⟨b, off, he, hc⟩ := hs.kept hb (vI_ne (k := 0) (by simp))
  rw [hw] at he
  cases he
  have h1 := hc x.ws.length (by rw [vI_length]; simp)
  have e1 : (vI (x.ws ++ [-77]))[x.ws.length]? = some (.int .i64 (-77)) := by simp [vI]
  rw [e1] at h1
  simpa using h1
theorem MarkC.mark {B : Nat} {W V : World} {x : Con} (hx : MarkC B W x) (hb : Below W.heap.size W V) : ∃ g, x.ea = some ⟨g, 0, none⟩ ∧ x.es.length + 1 ≤ x.ec ∧ V.cell? ⟨g, x.es.length * 5, none⟩ = some (.int .i64 (-77)) := by
  obtain ⟨g, hw, hg, hle, hs⟩ := hx.at'
  refine ⟨g, hw, hle, ?_⟩
  obtain ⟨b, off, he, hc⟩ := hs.kept hb (fun e => by rw [eFlat_append] at e; have := (List.append_eq_nil_iff.1 e).2; cases this)
  rw [hw] at he
  cases he
  have h1 := hc (x.es.length * 5) (by rw [eFlat_length, List.length_append]; simp)
  have e1 : (eFlat (x.es ++ [mk77]))[x.es.length * 5]? = some (.int .i64 (-77)) := by
    have := eFlat_get (x.es ++ [mk77]) x.es.length 0 (by simp) (by omega)
    rw [Nat.add_zero] at this
    rw [this, List.getElem_append_right (Nat.le_refl _)]
    simp [Ent.cells, mk77]
  rw [e1] at h1
  simpa using h1
set_option maxRecDepth 100000 in
set_option maxHeartbeats 4000000 in
theorem whole_true (l c : Con) (B : Nat) (w : World) (hl : MarkC B w l) (hc : ConOk w c) (hd : l.d = c.d) :
    Calls Try.prog 41 #[l.agg, c.agg] w fun r w' => r = .returned (.bool true) ∧ Below w.heap.size w w' := by
  have HL := Lib.hid hl
  have HS := Lib.hid (fun V (h : Below w.heap.size w V) => sameCon_true l c V (hl.ok.kept h) (hc.kept h) hd)
  have HM := Lib.hid (fun V (h : Below w.heap.size w V) => hl.mark h)
  obtain ⟨g, hea, hge, hle, hsl⟩ := hl.at'
  have hlen : c.es.length = l.es.length := by
    have := congrArg (fun z => z.2.2.length) hd
    simpa [Con.d] using this.symm
  clear hl hc hd hsl
  obtain ⟨n, k, b, d, t, wn, p, r, s, o, ea, ec, es⟩ := l
  simp only at hea hle
  subst hea
  have hm : es.length ≤ 2513169434843 := HL.out.mx
  obtain ⟨n', k', b', d', t', wn', p', r', s', o', ea', ec', es'⟩ := c
  unfold Con.agg at HS ⊢
  simp only at HS HM hlen ⊢
  rw [hlen] at HS ⊢
  clear hlen
  go_enter Try.func41, Try.ntmps41
  have HB := Lib.hid (((Below.refl w.heap.size w).alloc (Nat.le_refl _) (.cells #[.int .i64 n, .int .i64 k, .int .i64 b, .int .i64 d, .int .i64 t, .int .i64 wn, .int .u64 p, .int .u64 r, .int .u64 s, .int .i64 o, .slice (some ⟨g, 0, none⟩) es.length ec] 45)).alloc (by simp) (.cells #[.int .i64 n', .int .i64 k', .int .i64 b', .int .i64 d', .int .i64 t', .int .i64 wn', .int .u64 p', .int .u64 r', .int .u64 s', .int .i64 o', .slice ea' es.length ec'] 45))
  have HR := Lib.hid (And.intro (show ((w.alloc (.cells #[.int .i64 n, .int .i64 k, .int .i64 b, .int .i64 d, .int .i64 t, .int .i64 wn, .int .u64 p, .int .u64 r, .int .u64 s, .int .i64 o, .slice (some ⟨g, 0, none⟩) es.length ec] 45)).alloc (.cells #[.int .i64 n', .int .i64 k', .int .i64 b', .int .i64 d', .int .i64 t', .int .i64 wn', .int .u64 p', .int .u64 r', .int .u64 s', .int .i64 o', .slice ea' es.length ec'] 45)).heap[w.heap.size]? = some (.cells #[.int .i64 n, .int .i64 k, .int .i64 b, .int .i64 d, .int .i64 t, .int .i64 wn, .int .u64 p, .int .u64 r, .int .u64 s, .int .i64 o, .slice (some ⟨g, 0, none⟩) es.length ec] 45) from alloc_old (alloc_at rfl)) (show ((w.alloc (.cells #[.int .i64 n, .int .i64 k, .int .i64 b, .int .i64 d, .int .i64 t, .int .i64 wn, .int .u64 p, .int .u64 r, .int .u64 s, .int .i64 o, .slice (some ⟨g, 0, none⟩) es.length ec] 45)).alloc (.cells #[.int .i64 n', .int .i64 k', .int .i64 b', .int .i64 d', .int .i64 t', .int .i64 wn', .int .u64 p', .int .u64 r', .int .u64 s', .int .i64 o', .slice ea' es.length ec'] 45)).heap[w.heap.size + 1]? = some (.cells #[.int .i64 n', .int .i64 k', .int .i64 b', .int .i64 d', .int .i64 t', .int .i64 wn', .int .u64 p', .int .u64 r', .int .u64 s', .int .i64 o', .slice ea' es.length ec'] 45) from alloc_at (by simp)))
  go_wp2_with fail
  obtain ⟨W0, hW0⟩ : ∃ W, W = (w.alloc (.cells #[.int .i64 n, .int .i64 k, .int .i64 b, .int .i64 d, .int .i64 t, .int .i64 wn, .int .u64 p, .int .u64 r, .int .u64 s, .int .i64 o, .slice (some ⟨g, 0, none⟩) es.length ec] 45)).alloc (.cells #[.int .i64 n', .int .i64 k', .int .i64 b', .int .i64 d', .int .i64 t', .int .i64 wn', .int .u64 p', .int .u64 r', .int .u64 s', .int .i64 o', .slice ea' es.length ec'] 45) := ⟨_, rfl⟩
  rw [← hW0] at HB HR ⊢
  clear hW0
  have HRS := Lib.hid (show (0 : Int) ≤ (es.length : Int) + 1 ∧ (es.length : Int) + 1 ≤ (ec : Int) by omega)
  have e1 : IntKind.i64.wrap ((es.length : Int) + 1) = (es.length : Int) + 1 := by rw [IntKind.wrap_i64]; omega
  have HE1 := Lib.hid e1
  have HLT := Lib.hid (show (es.length : Int) < (es.length : Int) + 1 by omega)
  have i1 : (es.length : Int) < ((es.length + 1 : Nat) : Int) := by omega
  have i2 : (0 : Int) ≤ (es.length : Int) := by omega
  clear e1
  refine wp_region_inv 20 (fun V => Below w.heap.size w V ∧ V.heap[w.heap.size]? = some (.cells #[.int .i64 n, .int .i64 k, .int .i64 b, .int .i64 d, .int .i64 t, .int .i64 wn, .int .u64 p, .int .u64 r, .int .u64 s, .int .i64 o, .slice (some ⟨g, 0, none⟩) es.length ec] 45) ∧ V.heap[w.heap.size + 1]? = some (.cells #[.int .i64 n', .int .i64 k', .int .i64 b', .int .i64 d', .int .i64 t', .int .i64 wn', .int .u64 p', .int .u64 r', .int .u64 s', .int .i64 o', .slice ea' es.length ec'] 45)) (by kernel_rfl) (by kernel_rfl) (fun n => ⟨below_drawn HB.out n, HR.out.1, HR.out.2⟩) ?_
  simp only [List.take_succ_cons, List.take_zero]
  iterate 20
    apply wpInv_cons
    · rfl
    · intro Wx hw
      have a0 : Wx.cell? ⟨w.heap.size, 0, none⟩ = some (.int .i64 n) := by rw [cell_of_row _ _ _ _ _ _ hw.2.1]; rfl
      have a1 : Wx.cell? ⟨w.heap.size, 1, none⟩ = some (.int .i64 k) := by rw [cell_of_row _ _ _ _ _ _ hw.2.1]; rfl
      have a2 : Wx.cell? ⟨w.heap.size, 2, none⟩ = some (.int .i64 b) := by rw [cell_of_row _ _ _ _ _ _ hw.2.1]; rfl
      have a3 : Wx.cell? ⟨w.heap.size, 3, none⟩ = some (.int .i64 d) := by rw [cell_of_row _ _ _ _ _ _ hw.2.1]; rfl
      have a4 : Wx.cell? ⟨w.heap.size, 4, none⟩ = some (.int .i64 t) := by rw [cell_of_row _ _ _ _ _ _ hw.2.1]; rfl
      have a5 : Wx.cell? ⟨w.heap.size, 5, none⟩ = some (.int .i64 wn) := by rw [cell_of_row _ _ _ _ _ _ hw.2.1]; rfl
      have a6 : Wx.cell? ⟨w.heap.size, 6, none⟩ = some (.int .u64 p) := by rw [cell_of_row _ _ _ _ _ _ hw.2.1]; rfl
      have a7 : Wx.cell? ⟨w.heap.size, 7, none⟩ = some (.int .u64 r) := by rw [cell_of_row _ _ _ _ _ _ hw.2.1]; rfl
      have a8 : Wx.cell? ⟨w.heap.size, 8, none⟩ = some (.int .u64 s) := by rw [cell_of_row _ _ _ _ _ _ hw.2.1]; rfl
      have a9 : Wx.cell? ⟨w.heap.size, 9, none⟩ = some (.int .i64 o) := by rw [cell_of_row _ _ _ _ _ _ hw.2.1]; rfl
      have a10 : Wx.cell? ⟨w.heap.size, 10, none⟩ = some (.slice (some ⟨g, 0, none⟩) es.length ec) := by rw [cell_of_row _ _ _ _ _ _ hw.2.1]; rfl
      have d0 : Wx.cell? ⟨w.heap.size + 1, 0, none⟩ = some (.int .i64 n') := by rw [cell_of_row _ _ _ _ _ _ hw.2.2]; rfl
      have d1 : Wx.cell? ⟨w.heap.size + 1, 1, none⟩ = some (.int .i64 k') := by rw [cell_of_row _ _ _ _ _ _ hw.2.2]; rfl
      have d2 : Wx.cell? ⟨w.heap.size + 1, 2, none⟩ = some (.int .i64 b') := by rw [cell_of_row _ _ _ _ _ _ hw.2.2]; rfl
      have d3 : Wx.cell? ⟨w.heap.size + 1, 3, none⟩ = some (.int .i64 d') := by rw [cell_of_row _ _ _ _ _ _ hw.2.2]; rfl
      have d4 : Wx.cell? ⟨w.heap.size + 1, 4, none⟩ = some (.int .i64 t') := by rw [cell_of_row _ _ _ _ _ _ hw.2.2]; rfl
      have d5 : Wx.cell? ⟨w.heap.size + 1, 5, none⟩ = some (.int .i64 wn') := by rw [cell_of_row _ _ _ _ _ _ hw.2.2]; rfl
      have d6 : Wx.cell? ⟨w.heap.size + 1, 6, none⟩ = some (.int .u64 p') := by rw [cell_of_row _ _ _ _ _ _ hw.2.2]; rfl
      have d7 : Wx.cell? ⟨w.heap.size + 1, 7, none⟩ = some (.int .u64 r') := by rw [cell_of_row _ _ _ _ _ _ hw.2.2]; rfl
      have d8 : Wx.cell? ⟨w.heap.size + 1, 8, none⟩ = some (.int .u64 s') := by rw [cell_of_row _ _ _ _ _ _ hw.2.2]; rfl
      have d9 : Wx.cell? ⟨w.heap.size + 1, 9, none⟩ = some (.int .i64 o') := by rw [cell_of_row _ _ _ _ _ _ hw.2.2]; rfl
      have d10 : Wx.cell? ⟨w.heap.size + 1, 10, none⟩ = some (.slice ea' es.length ec') := by rw [cell_of_row _ _ _ _ _ _ hw.2.2]; rfl
      obtain ⟨_, hq, _, m0⟩ := HM.out Wx hw.1
      cases hq
      go_simp
      first
        | exact ⟨hw, rfl⟩
        | (show Calls _ _ _ _ _; with_reducible exact (HS.out _ hw.1).mono (fun e w' ⟨he, hb⟩ => ⟨he, hw.1.trans (hb.mono hw.1.size), row_kept hw.2.1 hb, row_kept hw.2.2 hb⟩))
        | (rw [if_pos HRS.out]; exact ⟨hw, rfl⟩)
        | (rw [if_pos HLT.out]; exact ⟨hw, rfl⟩)
    simp only [Act.put, List.setIfInBounds_toArray, List.set_cons_zero, List.set_cons_succ, HE1.out]
  refine wpInv_nil fun V hw => ?_
  simp only [List.drop_succ_cons, List.drop_zero]
  have HV := Lib.hid hw
  clear hw i1 HB HR HE1 HRS HS
  go_wp2
  go_loopw [5, 6] (fun i s6 wr => ∃ j : Nat, j ≤ es.length ∧ i = .int .i64 j ∧ Qt V wr) (fun i _ _ => es.length - (intOf i).toNat)
  case atStart => exact ⟨0, by omega, rfl, Qt.refl _⟩
  case round =>
    obtain ⟨j, hj, rfl, hq⟩ := hrel
    have HB := Lib.hid (HV.out.1.trans (hq.below _))
    have z1 : wr.cell? ⟨w.heap.size, 10, none⟩ = some (.slice (some ⟨g, 0, none⟩) es.length ec) := by rw [hq.cell, cell_of_row _ _ _ _ _ _ HV.out.2.1]; rfl
    have z2 : wr.cell? ⟨w.heap.size + 1, 10, none⟩ = some (.slice ea' es.length ec') := by rw [hq.cell, cell_of_row _ _ _ _ _ _ HV.out.2.2]; rfl
    have HQ := Lib.hid hq
    clear hq
    by_cases hlt : j < es.length
    · have t0 : decide ((j : Int) < (es.length : Int)) = true := by simp; omega
      have i1 : (j : Int) < (es.length : Int) := by omega
      obtain ⟨ob, oo, hea, f0, f1, f2, f3, f4⟩ := (HL.out.ok.kept HB.out).ent j hlt
      cases hea
      simp only [Nat.zero_add] at f4
      have HX := Lib.hid (HL.out.ents _ (List.getElem_mem hlt))
      have hxm := HX.out.mx
      obtain ⟨gx, hxa, hxl, hxc⟩ := HX.out.mark HB.out
      clear f0 f1 f2 f3
      rw [hxa] at f4
      clear hxa HX
      generalize es[j] = x at *
      have e2 : (x.ws.length : Int) + 1 ≤ (x.wc : Int) := by omega
      have hrS : ∀ W, (Instr.slice 22 (.slice (some ⟨gx, 0, none⟩) x.ws.length x.wc) none (some (.int .i64 ((x.ws.length : Int) + 1))) none).run Try.prog W = .ok (.slice (some ⟨gx, 0, none⟩) (x.ws.length + 1) x.wc) W := fun W =>
        run_slice_hi (P := Try.prog) Try.underlying22 sz3 (some ⟨gx, 0, none⟩) ⟨gx, 0, rfl⟩ x.ws.length x.wc .i64 ((x.ws.length : Int) + 1) (x.ws.length + 1) rfl hxl W
      have i3 : (x.ws.length : Int) < ((x.ws.length + 1 : Nat) : Int) := by omega
      go_wp2
      go_roundw
      case rel => exact ⟨j + 1, by omega, by go_num, HQ.out⟩
      case measure => simp [intOf]; omega
    · have t0 : decide ((j : Int) < (es.length : Int)) = false := by simp; omega
      go_wp2
      go_ret
      exact ⟨rfl, HB.out⟩
end Go.Proofs.Ytpikmcapnmdmbaa
