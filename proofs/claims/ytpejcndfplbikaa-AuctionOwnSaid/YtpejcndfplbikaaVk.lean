/-
  Layer 21: Back, the program's and the document's.
-/
import Derived.Test.YtpejcndfplbikaaVj
namespace Go.Proofs.Ytpejcndfplbikaa
open Go.RowKit Go.K
set_option linter.unusedVariables false
set_option linter.unusedSimpArgs false
theorem Ent.back_d (es : List Ent) (j : Nat) (h : j < es.length) : giveL (dA (es.map Ent.d) j) (dI (es.map Ent.d) j) (dC (es.map Ent.d) j) = es[j].back := by rw [dA_ent _ _ h, dI_ent _ _ h, dC_ent _ _ h]; rfl
set_option maxRecDepth 100000 in
set_option maxHeartbeats 1000000 in
theorem back_all (c : Con) (w : World) (hc : ConOk w c) : Calls Try.prog 19 #[c.agg] w fun r w' => OwnG w.heap.size w' r (backP (c.es.map Ent.d) c.es.length) ∧ Below w.heap.size w w' := by
  have HC := Lib.hid hc
  have hm := hc.mx
  clear hc
  obtain ⟨n, k, b, d, t, wn, p, r, s, o, ea, ec, es⟩ := c
  unfold Con.agg
  simp only at *
  have HB := Lib.hid ((Below.refl w.heap.size w).alloc (Nat.le_refl _) (.cells #[.int .i64 n, .int .i64 k, .int .i64 b, .int .i64 d, .int .i64 t, .int .i64 wn, .int .u64 p, .int .u64 r, .int .u64 s, .int .i64 o, .slice ea es.length ec] 25))
  have HS := Lib.hid (fun j (h : j < es.length) => Ent.back_d es j h)
  generalize hds : es.map Ent.d = ds at HS ⊢
  clear hds
  go_enter Try.func19, Try.ntmps19
  go_wp2
  go_loopw [3, 5, 9] (fun v' x5 i wr => ∃ (j : Nat) (v : Value), v = v' ∧ j ≤ es.length ∧ i = .int .i64 j ∧ Below w.heap.size w wr ∧ wr.ownsRow w.heap.size 64 3 v (backP ds j).length (gFlat (backP ds j))) (fun _ _ i _ => es.length - (intOf i).toNat)
  case atStart => exact ⟨0, _, rfl, by omega, rfl, HB.out, World.ownsRow_nil _ _ _ _⟩
  case round =>
    clear HB
    obtain ⟨j, v, hv, hj, rfl, hb, ho⟩ := hrel
    subst hv
    have HB := Lib.hid hb
    have HO := Lib.hid ho
    clear hb ho
    by_cases hlt : j < es.length
    · have t0 : decide ((j : Int) < (es.length : Int)) = true := by simp; omega
      have i1 : (j : Int) < (es.length : Int) := by omega
      obtain ⟨ob, oo, hea, f0, f1, f2, f3, f4⟩ := (HC.out.kept HB.out).ent j hlt
      simp only at hea f0 f1 f2 f3 f4
      subst hea
      have HN := Lib.hid (show backP ds (j + 1) = backP ds j ++ es[j].back by rw [← HS.out j hlt]; rfl)
      have HL := Lib.hid (backP_le ds j)
      have HK := Lib.hid (fun V (hV : Below wr.heap.size wr V) => back_any w.heap.size v _ _ es[j] V (Nat.le_trans HB.out.size hV.size) (by have := HL.out; omega) (owns_below (B := 0) HO.out hV))
      generalize es[j] = x at *
      obtain ⟨xa, xi, xc, xp, xw, xk, xs⟩ := x
      unfold Ent.agg at HK
      simp only at HK f0 f1 f2 f3 f4
      go_wp2_with (go_at_call 38; (with_reducible refine (HK.out _ ((Below.refl _ _).alloc (Nat.le_refl _) _)).mono ?_); rintro e1 w1 ⟨v1, rfl, hg⟩)
      have HO2 := Lib.hid (show w1.ownsRow w.heap.size 64 3 v1 (backP ds (j + 1)).length (gFlat (backP ds (j + 1))) by rw [HN.out, List.length_append, gFlat_append]; exact hg.row)
      have HB2 := Lib.hid ((HB.out.alloc HB.out.size (.cells #[.int .i64 xa, .int .i64 xi, .int .u64 xc, .int .u64 xp, .slice xw xs.length xk] 33)).trans (hg.below (owns_below (B := 0) HO.out ((Below.refl _ _).alloc (Nat.le_refl _) _)) (Nat.le_refl _) (by have := HB.out.size; simp; omega)))
      clear hg HK
      go_wp2
      go_roundw
      case rel => exact ⟨j + 1, _, rfl, by omega, by go_num, HB2.out, HO2.out⟩
      case measure => simp [intOf]; omega
    · have t0 : decide ((j : Int) < (es.length : Int)) = false := by simp; omega
      have HE := Lib.hid (show j = es.length by omega)
      go_wp2
      go_ret
      refine ⟨OwnG.mk ?_, HB.out⟩
      have h := HO.out
      rw [HE.out] at h
      exact h
set_option maxRecDepth 100000 in
set_option maxHeartbeats 1000000 in
theorem rback_all (c : Con) (w : World) (hc : ConOk w c) : Calls Try.prog 20 #[c.agg] w fun r w' => OwnG w.heap.size w' r (backP (c.es.map Ent.d) c.es.length) ∧ Below w.heap.size w w' := by
  have HC := Lib.hid hc
  have hm := hc.mx
  clear hc
  obtain ⟨n, k, b, d, t, wn, p, r, s, o, ea, ec, es⟩ := c
  unfold Con.agg
  simp only at *
  have HB := Lib.hid ((Below.refl w.heap.size w).alloc (Nat.le_refl _) (.cells #[.int .i64 n, .int .i64 k, .int .i64 b, .int .i64 d, .int .i64 t, .int .i64 wn, .int .u64 p, .int .u64 r, .int .u64 s, .int .i64 o, .slice ea es.length ec] 25))
  have HS := Lib.hid (fun j (h : j < es.length) => Ent.back_d es j h)
  generalize hds : es.map Ent.d = ds at HS ⊢
  clear hds
  go_enter Try.func20, Try.ntmps20
  go_wp2
  go_loopw [3, 4] (fun v' i wr => ∃ (j : Nat) (v : Value), v = v' ∧ j ≤ es.length ∧ i = .int .i64 j ∧ Below w.heap.size w wr ∧ wr.heap[w.heap.size]? = some (.cells #[.int .i64 n, .int .i64 k, .int .i64 b, .int .i64 d, .int .i64 t, .int .i64 wn, .int .u64 p, .int .u64 r, .int .u64 s, .int .i64 o, .slice ea es.length ec] 25) ∧
      wr.ownsRow (w.heap.size + 1) 64 3 v (backP ds j).length (gFlat (backP ds j))) (fun _ i _ => es.length - (intOf i).toNat)
  case atStart => exact ⟨0, _, rfl, by omega, rfl, HB.out, alloc_at rfl, World.ownsRow_nil _ _ _ _⟩
  case round =>
    clear HB
    obtain ⟨j, v, hv, hj, rfl, hb, hr, ho⟩ := hrel
    subst hv
    have HB := Lib.hid hb
    have HR := Lib.hid hr
    have HO := Lib.hid ho
    have z1 : wr.cell? ⟨w.heap.size, 10, none⟩ = some (.slice ea es.length ec) := by rw [cell_of_row _ _ _ _ _ _ hr]; rfl
    clear hb hr ho
    by_cases hlt : j < es.length
    · have t0 : decide ((j : Int) < (es.length : Int)) = true := by simp; omega
      have i1 : (j : Int) < (es.length : Int) := by omega
      obtain ⟨ob, oo, hea, f0, f1, f2, f3, f4⟩ := (HC.out.kept HB.out).ent j hlt
      simp only at hea f0 f1 f2 f3 f4
      subst hea
      have HN := Lib.hid (show backP ds (j + 1) = backP ds j ++ es[j].back by rw [← HS.out j hlt]; rfl)
      have HL := Lib.hid (backP_le ds j)
      have HGL := Lib.hid (show es[j].back.length ≤ 2 from giveL_le _ _ _)
      have HK := Lib.hid (fun V => rback_any es[j] V)
      generalize es[j] = x at *
      have B1 := Lib.hid (show (backP ds j).length + x.back.length ≤ maxLen by have h1 := HL.out; have h2 := HGL.out; unfold maxLen; omega)
      have B2 := Lib.hid (show ((backP ds j).length + x.back.length) * 24 ≤ 140737488355328 by have h1 := HL.out; have h2 := HGL.out; omega)
      have B3 := Lib.hid (show w.heap.size + 1 ≤ wr.heap.size from lt_row HR.out)
      obtain ⟨xa, xi, xc, xp, xw, xk, xs⟩ := x
      unfold Ent.agg at HK
      simp only at HK f0 f1 f2 f3 f4
      go_wp2_with (first
        | (go_at_call 41; (with_reducible refine (HK.out _).mono ?_); rintro e1 w1 ⟨⟨a1, c1, rfl, ho1⟩, hb1⟩; obtain ⟨hn1, hs1⟩ := own_sl ho1)
        | (at_builtin; refine wpList_append_sl rfl _ _ 27 rfl (w.heap.size + 1) 64 (.agg #[.int .i64 0, .int .i64 0, .int .u64 0]) 3 24 Try.underlying27 infoG rfl (by decide) v _ _ rfl (owns_below (B := 0) HO.out hb1) a1 _ c1 _ rfl hn1 (gFlat_length _) hs1 (oneCell_gFlat _) B1.out B2.out (Nat.le_trans B3.out hb1.size) ?_; intro v2 w2 ho2 hg2))
      have ho' := owns_below (B := 0) HO.out hb1
      have HO2 := Lib.hid (show w2.ownsRow (w.heap.size + 1) 64 3 v2 (backP ds (j + 1)).length (gFlat (backP ds (j + 1))) by rw [HN.out, List.length_append, gFlat_append]; exact ho2)
      have HB2 := Lib.hid (show Below w.heap.size w w2 from (HB.out.trans (hb1.mono HB.out.size)).grown hg2 (HB.out.trans (hb1.mono HB.out.size)).size (fun k hk => by have := (ho'.lt k hk).1; omega))
      have HR2 := Lib.hid (row_off (row_kept HR.out hb1) hg2 (fun h => by have := (ho'.lt _ h.symm).1; omega))
      clear ho2 hg2 ho' hb1 ho1 hs1 hn1 HK
      go_wp2
      go_roundw
      case rel => exact ⟨j + 1, _, rfl, by omega, by go_num, HB2.out, HR2.out, HO2.out⟩
      case measure => simp [intOf]; omega
    · have t0 : decide ((j : Int) < (es.length : Int)) = false := by simp; omega
      have HE := Lib.hid (show j = es.length by omega)
      go_wp2
      go_ret
      refine ⟨OwnG.mk ?_, HB.out⟩
      have h := owns_base HO.out (Nat.le_succ _)
      rw [HE.out] at h
      exact h
end Go.Proofs.Ytpejcndfplbikaa
