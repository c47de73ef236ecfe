/-
  Layer 21: a lent contract that is as it was is found so, and is written over.
-/
import Derived.Test.YtpejcndfplbikaaVd
namespace Go.Proofs.Ytpejcndfplbikaa
open Go.RowKit Go.K
set_option linter.unusedVariables false
set_option linter.unusedSimpArgs false
theorem MarkC.mark {B : Nat} {W V : World} {x : Con} (hx : MarkC B W x) (hb : Below W.heap.size W V) : ∃ g, x.ea = some ⟨g, 0, none⟩ ∧ x.es.length + 2 ≤ x.ec ∧ V.cell? ⟨g, x.es.length * 5, none⟩ = some (.int .i64 (-77)) ∧ V.cell? ⟨g, (x.es.length + 1) * 5, none⟩ = some (.int .i64 (-78)) := by
  obtain ⟨g, hw, hg, hle, hs⟩ := hx.at'
  obtain ⟨b, off, he, hc⟩ := hs.kept hb (fun e => by rw [eFlat_append] at e; have := (List.append_eq_nil_iff.1 e).2; cases this)
  rw [hw] at he
  cases he
  refine ⟨g, hw, hle, ?_, ?_⟩
  · have h1 := hc (x.es.length * 5) (by rw [eFlat_length, List.length_append]; simp)
    have e1 : (eFlat (x.es ++ [mk77, mk78]))[x.es.length * 5]? = some (.int .i64 (-77)) := by
      have := eFlat_get (x.es ++ [mk77, mk78]) x.es.length 0 (by simp) (by omega)
      rw [Nat.add_zero] at this
      rw [this, List.getElem_append_right (Nat.le_refl _)]
      simp [Ent.cells, mk77]
    rw [e1] at h1
    simpa using h1
  · have h1 := hc ((x.es.length + 1) * 5) (by rw [eFlat_length, List.length_append]; simp)
    have e1 : (eFlat (x.es ++ [mk77, mk78]))[(x.es.length + 1) * 5]? = some (.int .i64 (-78)) := by
      have := eFlat_get (x.es ++ [mk77, mk78]) (x.es.length + 1) 0 (by simp) (by omega)
      rw [Nat.add_zero] at this
      rw [this, List.getElem_append_right (by omega)]
      simp [Ent.cells, mk78]
    rw [e1] at h1
    simpa using h1
/-- The row of the entries, as far as they are still whole. -/
def RowE (W : World) (g ec : Nat) (es : List Ent) (j : Nat) (cur : Array Value) : Prop :=
  W.heap[g]? = some (.cells cur 33 (0, 0)) ∧ cur.size = ec * 5 ∧ ∀ i (h : i < es.length), j ≤ i → ∀ q, q < 5 → cur[i * 5 + q]? = es[i].cells[q]?
theorem MarkC.rowE {B : Nat} {W : World} {m : Con} (h : MarkC B W m) : ∃ g cur, m.ea = some ⟨g, 0, none⟩ ∧ m.es.length + 2 ≤ m.ec ∧ m.ec ≤ maxLen ∧ RowE W g m.ec m.es 0 cur := by
  obtain ⟨g, cap, cur, hv, hg, hr, hle, hcm, hsz, htk⟩ := owns_cases h.row (by omega)
  injection hv with h3 h4 h5
  refine ⟨g, cur, h3, by omega, by omega, hr, by rw [h5]; exact hsz, fun i hi _ q hq => ?_⟩
  have h6 := eFlat_get (m.es ++ [mk77, mk78]) i q (by simp; omega) hq
  rw [← htk, List.getElem?_take_of_lt (by omega), Array.getElem?_toList] at h6
  rw [h6, List.getElem_append_left hi]
theorem MarkE.rowW {B : Nat} {W : World} {x : Ent} (h : MarkE B W x) : ∃ g cur, x.wa = some ⟨g, 0, none⟩ ∧ W.heap[g]? = some (.cells cur 3 (0, 0)) ∧ x.ws.length + 2 ≤ cur.size := by
  obtain ⟨g, cap, cur, hv, hg, hr, hle, hcm, hsz, htk⟩ := owns_cases h.row (by omega)
  injection hv with h3 h4 h5
  exact ⟨g, cur, h3, hr, by omega⟩
theorem MarkE.off {B g : Nat} {W W' : World} {x : Ent} {o : Obj} (h : MarkE B W x) (hp : Put W g o W') (hne : x.wa ≠ some ⟨g, 0, none⟩) : MarkE B W' x := by
  obtain ⟨g', hw, _⟩ := h.at'
  refine ⟨h.row.kept hp.grown (.inr ?_), h.mx, h.wf, h.iw, h.cw, h.pw⟩
  rw [hw]
  intro e
  have : g' = g := by simpa [Value.ownBlock] using e
  exact hne (by rw [hw, this])
set_option maxRecDepth 100000 in
set_option maxHeartbeats 4000000 in
theorem kept_any (S : Nat → Prop) (B : Nat) (l c : Con) (w : World) (hl : MarkC B w l) (hc : ConOk w c) (hd : l.d = c.d) (hS1 : ∀ k, (Value.slice l.ea (l.es.length + 2) l.ec).ownBlock = some k → S k) (hS2 : ∀ e ∈ l.es, ∀ k, (Value.slice e.wa (e.ws.length + 2) e.wc).ownBlock = some k → S k) :
    Calls Try.prog 16 #[l.agg, c.agg] w fun r w' => r = .returned (.bool true) ∧ Only S w w' := by
  have HL := Lib.hid hl
  have HS := Lib.hid (fun V (h : Below w.heap.size w V) => sameCon_true l c V (hl.ok.kept h) (hc.kept h) hd)
  have HM := Lib.hid (fun V (h : Below w.heap.size w V) => hl.mark h)
  have HDI := Lib.hid hl.dis
  obtain ⟨g, cur, hea, hle, hcm, hrow⟩ := hl.rowE
  have hlen : c.es.length = l.es.length := by
    have := congrArg (fun z => z.2.2.length) hd
    simpa [Con.d] using this.symm
  have HSg := Lib.hid (hS1 g (by rw [hea]; rfl))
  have HS2 := Lib.hid hS2
  have hm : l.es.length ≤ 2513169434843 := hl.mx
  have HRW := Lib.hid hrow
  clear hl hc hd hS1 hS2 hrow
  obtain ⟨n, k, b, d, t, wn, p, r, s, o, ea, ec, es⟩ := l
  simp only at hea hle hcm hm HDI HSg HS2 HRW
  subst hea
  obtain ⟨n', k', b', d', t', wn', p', r', s', o', ea', ec', es'⟩ := c
  unfold Con.agg at HS ⊢
  simp only at HS HM hlen ⊢
  rw [hlen] at HS ⊢
  clear hlen
  go_enter Try.func16, Try.ntmps16
  have HB := Lib.hid (((Below.refl w.heap.size w).alloc (Nat.le_refl _) (.cells #[.int .i64 n, .int .i64 k, .int .i64 b, .int .i64 d, .int .i64 t, .int .i64 wn, .int .u64 p, .int .u64 r, .int .u64 s, .int .i64 o, .slice (some ⟨g, 0, none⟩) es.length ec] 25)).alloc (by simp) (.cells #[.int .i64 n', .int .i64 k', .int .i64 b', .int .i64 d', .int .i64 t', .int .i64 wn', .int .u64 p', .int .u64 r', .int .u64 s', .int .i64 o', .slice ea' es.length ec'] 25))
  have HR := Lib.hid (show ((w.alloc (.cells #[.int .i64 n, .int .i64 k, .int .i64 b, .int .i64 d, .int .i64 t, .int .i64 wn, .int .u64 p, .int .u64 r, .int .u64 s, .int .i64 o, .slice (some ⟨g, 0, none⟩) es.length ec] 25)).alloc (.cells #[.int .i64 n', .int .i64 k', .int .i64 b', .int .i64 d', .int .i64 t', .int .i64 wn', .int .u64 p', .int .u64 r', .int .u64 s', .int .i64 o', .slice ea' es.length ec'] 25)).heap[w.heap.size]? = some (.cells #[.int .i64 n, .int .i64 k, .int .i64 b, .int .i64 d, .int .i64 t, .int .i64 wn, .int .u64 p, .int .u64 r, .int .u64 s, .int .i64 o, .slice (some ⟨g, 0, none⟩) es.length ec] 25) from alloc_old (alloc_at rfl))
  have hrS : ∀ W, (Instr.slice 23 (.slice (some ⟨g, 0, none⟩) es.length ec) none (some (.int .i64 ((es.length : Int) + 2))) none).run Try.prog W = .ok (.slice (some ⟨g, 0, none⟩) (es.length + 2) ec) W := fun W =>
    run_slice_hi (P := Try.prog) Try.underlying23 szE (some ⟨g, 0, none⟩) ⟨g, 0, rfl⟩ es.length ec .i64 ((es.length : Int) + 2) (es.length + 2) rfl hle W
  have i3 : (es.length : Int) < ((es.length + 2 : Nat) : Int) := by omega
  have i4 : (es.length : Int) + 1 < ((es.length + 2 : Nat) : Int) := by omega
  have i5 : decide ((ec : Int) < (es.length : Int) + 2) = false := decide_eq_false (by omega)
  have i6 : ((es.length : Int) + 1).toNat = es.length + 1 := by omega
  go_wp2_with fail
  refine (HS.out _ HB.out).mono ?_
  rintro e1 w1 ⟨rfl, hb⟩
  have HB1 := Lib.hid (HB.out.trans (hb.mono HB.out.size))
  have hr1 := row_kept HR.out hb
  have z10 : w1.cell? ⟨w.heap.size, 10, none⟩ = some (.slice (some ⟨g, 0, none⟩) es.length ec) := by rw [cell_of_row _ _ _ _ _ _ hr1]; rfl
  have HR1 := Lib.hid hr1
  obtain ⟨_, hq, _, m0, m1⟩ := HM.out w1 HB1.out
  cases hq
  clear hb hr1 HB HR HS HM
  go_wp2
  have HI0 := Lib.hid (show Only S w w1 ∧ RowE w1 g ec es 0 cur ∧ ∀ i (h : i < es.length), 0 ≤ i → MarkE B w1 es[i] from
    ⟨Only.of_below HB1.out, ⟨row_kept HRW.out.1 HB1.out, HRW.out.2⟩, fun i h _ => (HL.out.ents _ (List.getElem_mem h)).kept HB1.out⟩)
  clear HRW z10 m0 m1 i3 i4 i5 i6 hrS
  go_loopw [6, 7] (fun i ii wr => ∃ (j : Nat) (cur : Array Value), j ≤ es.length ∧ i = .int .i64 j ∧ Only S w wr ∧
      wr.heap[w.heap.size]? = some (.cells #[.int .i64 n, .int .i64 k, .int .i64 b, .int .i64 d, .int .i64 t, .int .i64 wn, .int .u64 p, .int .u64 r, .int .u64 s, .int .i64 o, .slice (some ⟨g, 0, none⟩) es.length ec] 25) ∧ RowE wr g ec es j cur ∧ ∀ i (h : i < es.length), j ≤ i → MarkE B wr es[i]) (fun i _ _ => es.length - (intOf i).toNat)
  case atStart => exact ⟨0, _, by omega, rfl, HI0.out.1, HR1.out, HI0.out.2.1, HI0.out.2.2⟩
  case round =>
    clear HI0 HR1 HB1
    obtain ⟨j, cur, hj, rfl, ho, hr, he, hme⟩ := hrel
    have HO := Lib.hid ho
    have HR := Lib.hid hr
    have HE := Lib.hid he
    have HME := Lib.hid hme
    have z1 : wr.cell? ⟨w.heap.size, 10, none⟩ = some (.slice (some ⟨g, 0, none⟩) es.length ec) := by rw [cell_of_row _ _ _ _ _ _ hr]; rfl
    clear ho hr he hme
    by_cases hlt : j < es.length
    · have t0 : decide ((j : Int) < (es.length : Int)) = true := by simp; omega
      have i1 : (j : Int) < (es.length : Int) := by omega
      have hcell : ∀ q, q < 5 → wr.cell? ⟨g, j * 5 + q, none⟩ = es[j].cells[q]? := fun q hq => by rw [cell_of_row _ _ _ _ _ _ HE.out.1]; exact HE.out.2.2 j hlt (Nat.le_refl _) q hq
      have f0 := hcell 0 (by omega)
      have f1 := hcell 1 (by omega)
      have f2 := hcell 2 (by omega)
      have f3 := hcell 3 (by omega)
      have f4 := hcell 4 (by omega)
      rw [Nat.add_zero] at f0
      have HMJ := Lib.hid (HME.out j hlt (Nat.le_refl _))
      have HXM := Lib.hid (List.getElem_mem hlt)
      have HDJ := Lib.hid (show ∀ i (h : i < es.length), j < i → es[j].wa ≠ es[i].wa from fun i h hji => List.pairwise_iff_getElem.1 HDI.out j i hlt h hji)
      have HCU := Lib.hid (HE.out.2.2 j hlt (Nat.le_refl _) 4 (by omega))
      have HSW := Lib.hid (HS2.out _ (List.getElem_mem hlt))
      clear hcell
      generalize es[j] = x at *
      have HK := Lib.hid (marked_true x B wr HMJ.out)
      obtain ⟨gw, cw, hwa, hgw, hcw⟩ := HMJ.out.rowW
      have hmx := HMJ.out.mx
      obtain ⟨xa, xi, xc, xp, xw, xk, xs⟩ := x
      simp only at hwa hcw hmx
      subst hwa
      unfold Ent.agg at HK
      simp only [Ent.cells] at f0 f1 f2 f3 f4 HK HCU
      have f0' : wr.cell? ⟨g, j * 5, none⟩ = some (.int .i64 xa) := f0
      have f1' : wr.cell? ⟨g, j * 5 + 1, none⟩ = some (.int .i64 xi) := f1
      have f2' : wr.cell? ⟨g, j * 5 + 2, none⟩ = some (.int .u64 xc) := f2
      have f3' : wr.cell? ⟨g, j * 5 + 3, none⟩ = some (.int .u64 xp) := f3
      have f4' : wr.cell? ⟨g, j * 5 + 4, none⟩ = some (.slice (some ⟨gw, 0, none⟩) xs.length xk) := f4
      have HCW := Lib.hid (show cur[j * 5 + 4]? = some (.slice (some ⟨gw, 0, none⟩) xs.length xk) from HCU.out)
      have HSgw := Lib.hid (HSW.out gw rfl)
      clear f0 f1 f2 f3 f4 HCU HSW
      have HGW := Lib.hid hgw
      clear hgw
      go_wp2_with fail
      refine HK.out.mono ?_
      rintro e2 w2 ⟨rfl, hb2⟩
      have HI2 := Lib.hid (show Only S w w2 ∧ w2.heap[w.heap.size]? = some (.cells #[.int .i64 n, .int .i64 k, .int .i64 b, .int .i64 d, .int .i64 t, .int .i64 wn, .int .u64 p, .int .u64 r, .int .u64 s, .int .i64 o, .slice (some ⟨g, 0, none⟩) es.length ec] 25) ∧ w2.heap[g]? = some (.cells cur 33 (0, 0)) ∧ w2.heap[gw]? = some (.cells cw 3 (0, 0)) ∧ ∀ i (h : i < es.length), j < i → MarkE B w2 es[i] from
        ⟨HO.out.trans (Only.of_below (S := fun _ => False) hb2) (fun n hn => hn.elim), row_kept HR.out hb2, row_kept HE.out.1 hb2, row_kept HGW.out hb2, fun i h hji => (HME.out i h (by omega)).kept hb2⟩)
      have HESZ := Lib.hid HE.out.2
      clear hb2 HK HO HR HME HGW z1 f0' f1' f2' f3' f4' HE
      go_wp2
      go_loopw [7] (fun i wq => ∃ (q : Nat) (cw : Array Value), q ≤ xs.length ∧ i = .int .i64 q ∧ xs.length + 2 ≤ cw.size ∧ Only S w wq ∧ wq.heap[w.heap.size]? = some (.cells #[.int .i64 n, .int .i64 k, .int .i64 b, .int .i64 d, .int .i64 t, .int .i64 wn, .int .u64 p, .int .u64 r, .int .u64 s, .int .i64 o, .slice (some ⟨g, 0, none⟩) es.length ec] 25) ∧ wq.heap[g]? = some (.cells cur 33 (0, 0)) ∧ wq.heap[gw]? = some (.cells cw 3 (0, 0)) ∧ ∀ i (h : i < es.length), j < i → MarkE B wq es[i]) (fun i _ => xs.length - (intOf i).toNat)
      case atStart => exact ⟨0, cw, by omega, rfl, hcw, HI2.out.1, HI2.out.2.1, HI2.out.2.2.1, HI2.out.2.2.2.1, HI2.out.2.2.2.2⟩
      case round =>
        clear HI2 hcw
        obtain ⟨q, cw', hq, rfl, hcw, ho, hr, hrg, hrw, hme⟩ := hrel
        have HO := Lib.hid ho
        have HR := Lib.hid hr
        have HRG := Lib.hid hrg
        have HRW := Lib.hid hrw
        have HME := Lib.hid hme
        have z1 : wr.cell? ⟨w.heap.size, 10, none⟩ = some (.slice (some ⟨g, 0, none⟩) es.length ec) := by rw [cell_of_row _ _ _ _ _ _ hr]; rfl
        have z2 : wr.cell? ⟨g, j * 5 + 4, none⟩ = some (.slice (some ⟨gw, 0, none⟩) xs.length xk) := by rw [cell_of_row _ _ _ _ _ _ hrg]; exact HCW.out
        clear ho hr hrg hrw hme
        by_cases hlq : q < xs.length
        · have t0 : decide ((q : Int) < (xs.length : Int)) = true := by simp; omega
          have i2 : (q : Int) < (xs.length : Int) := by omega
          go_wp2_with ((with_reducible refine at_store_op ?_); refine wpList_store_lit 3 gw q (segA cw'.toList q [.int .i64 (-5)]) (.int .i64 (-5)) HRW.out sz3 (by show q + 1 ≤ cw'.size; omega) rfl rfl ?_ ?_ ?_; exact rfl; exact rfl; intro w3 hp3)
          go_roundw
          case rel => exact ⟨q + 1, _, by omega, by go_num, by rw [segA_size _ _ _ (by simp; omega)]; simpa using hcw, HO.out.trans hp3.only (fun n hn => .inl (hn ▸ HSgw.out)), hp3.row HR.out (rows_ne HR.out HRW.out (by decide)), hp3.row HRG.out (rows_ne HRG.out HRW.out (by decide)), hp3.at',
            fun i h hji => (HME.out i h hji).off hp3 (fun e => HDJ.out i h hji e.symm)⟩
          case measure => simp [intOf]; omega
        · have t0 : decide ((q : Int) < (xs.length : Int)) = false := by simp; omega
          go_wp2_with ((with_reducible refine at_store_op ?_); refine wpList_store_lit 33 g (j * 5) (segA cur.toList (j * 5) [.int .i64 (-5), .int .i64 0, .int .u64 0, .int .u64 0, .slice none 0 0]) (.agg #[.int .i64 (-5), .int .i64 0, .int .u64 0, .int .u64 0, .slice none 0 0]) HRG.out szE (by have := HESZ.out.1; show j * 5 + 5 ≤ cur.size; omega) rfl rfl ?_ ?_ ?_; exact rfl; exact rfl; intro w3 hp3)
          go_roundw
          case rel =>
            have hsz := HESZ.out.1
            refine ⟨j + 1, _, by omega, by go_num, HO.out.trans hp3.only (fun n hn => .inl (hn ▸ HSg.out)), hp3.row HR.out (rows_ne HR.out HRG.out (by decide)), ⟨hp3.at', ?_, fun i hi hji q hq => ?_⟩, fun i h hji => (HME.out i h (by omega)).off hp3 (fun e => ?_)⟩
            · rw [segA_size _ _ _ (by simp; omega)]; simpa using hsz
            · rw [segA_after _ _ _ (by simp; omega) _ (by simp; omega)]
              simpa using HESZ.out.2 i hi (by omega) q hq
            · obtain ⟨g', cur', hw', hr', _⟩ := (HME.out i h (by omega)).rowW
              rw [hw'] at e
              injection e with e
              injection e with e
              exact rows_ne hr' HRG.out (by decide) e
          case measure => simp [intOf]; omega
    · have t0 : decide ((j : Int) < (es.length : Int)) = false := by simp; omega
      go_wp2
      go_ret
      exact ⟨rfl, HO.out⟩
end Go.Proofs.Ytpejcndfplbikaa
