/-
  Of every contract its terms and what goes back of it are the document's, told twice; the contract stays; gifts written over do not show elsewhere.
  No condition beyond the statement's own.
-/
import Derived.Test.YtiafhgcnjgpeaaaYd
namespace Go.Proofs.Ytiafhgcnjgpeaaa.lawTradeTerms
open Go.RowKit Go.K Go.ChangeShapes Go.WideShapes Go.ChangeAt
set_option linter.unusedVariables false
set_option linter.unusedSimpArgs false
set_option maxRecDepth 100000 in
set_option maxHeartbeats 8000000 in
theorem walk (c : Con) (w : World) (hc : ConOk w c) : Calls Try.prog 4 #[c.agg] w fun r w' => r = .returned (.bool true) ∧ Below w.heap.size w w' := by
  have HC := Lib.hid hc
  have HK10 := Lib.hid (fun V (h : Below w.heap.size w V) => lent_any c V (hc.kept h))
  have HK20 := Lib.hid (fun V (h : Below w.heap.size w V) => rback_any c V (hc.kept h))
  have HK21 := Lib.hid (fun V (h : Below w.heap.size w V) => rterms_any c V (hc.kept h))
  have HK23 := Lib.hid (fun V (h : Below w.heap.size w V) => rend_any c V (hc.kept h))
  have HGL := Lib.hid (show (backV c.es).length ≤ 5864062014634 by have := backV_length_le c.es; have := hc.mx; omega)
  clear hc
  unfold Con.agg at *
  go_enter Try.func4, Try.ntmps4
  have HB0 := Lib.hid ((Below.refl w.heap.size w).alloc (Nat.le_refl _) (.cells #[.int .i64 c.num, .int .i64 c.kind, .int .i64 c.by', .int .i64 c.dl, .int .i64 c.to, .int .i64 c.want, .int .u64 c.price, .int .u64 c.reserve, .int .u64 c.step, .int .i64 c.of', .slice c.ea c.es.length c.ec] 25))
  go_wp2_with fail
  refine (HK10.out _ HB0.out).mono ?_
  rintro e w1 ⟨l, rfl, hld, hml, hb1⟩
  have R1 := Lib.hid (show Box w1 w.heap.size c from row_kept (alloc_at rfl) hb1)
  have HB1 := Lib.hid (HB0.out.trans (hb1.mono (by simp)))
  have HML := Lib.hid hml
  have HLD := Lib.hid hld
  have HRL := Lib.hid hml.rn
  have HRW := Lib.hid hml.rnw
  have S1 := Lib.hid (show w.heap.size + 1 ≤ w1.heap.size from by have := hb1.size; simpa using this)
  have HK17 := Lib.hid (fun V (h : Below w1.heap.size w1 V) => terms_any l V (hml.ok.kept h))
  have HK18 := Lib.hid (fun V (h : Below w1.heap.size w1 V) => end_any l V (hml.ok.kept h))
  have HK19 := Lib.hid (fun V (h : Below w1.heap.size w1 V) => back_any l V (hml.ok.kept h))
  rw [termsV_d hld] at HK17
  rw [backV_d (con_es hld)] at HK18 HK19
  have K15 := Lib.hid (fun V (h1 : MarkC (w.alloc (.cells #[.int .i64 c.num, .int .i64 c.kind, .int .i64 c.by', .int .i64 c.dl, .int .i64 c.to, .int .i64 c.want, .int .u64 c.price, .int .u64 c.reserve, .int .u64 c.step, .int .i64 c.of', .slice c.ea c.es.length c.ec] 25)).heap.size V l) (h2 : Below w.heap.size w V) => kept_true l c _ V h1 (HC.out.kept h2) hld)
  clear hml hld hb1
  unfold Con.agg at HK17 HK18 HK19 K15
  have HA1 := Lib.hid ((Below.refl w1.heap.size w1).alloc (Nat.le_refl _) (.cells #[.int .i64 l.num, .int .i64 l.kind, .int .i64 l.by', .int .i64 l.dl, .int .i64 l.to, .int .i64 l.want, .int .u64 l.price, .int .u64 l.reserve, .int .u64 l.step, .int .i64 l.of', .slice l.ea l.es.length l.ec] 25))
  go_wp2_with fail
  refine (HK17.out _ HA1.out).mono ?_
  rintro e w2 ⟨rfl, hb2⟩
  have RL := Lib.hid (show Box w2 w1.heap.size l from row_kept (alloc_at rfl) hb2)
  have R1 := Lib.hid ((R1.out.alloc (.cells #[.int .i64 l.num, .int .i64 l.kind, .int .i64 l.by', .int .i64 l.dl, .int .i64 l.to, .int .i64 l.want, .int .u64 l.price, .int .u64 l.reserve, .int .u64 l.step, .int .i64 l.of', .slice l.ea l.es.length l.ec] 25)).kept hb2)
  have HB2 := Lib.hid ((HB1.out.alloc HB1.out.size (.cells #[.int .i64 l.num, .int .i64 l.kind, .int .i64 l.by', .int .i64 l.dl, .int .i64 l.to, .int .i64 l.want, .int .u64 l.price, .int .u64 l.reserve, .int .u64 l.step, .int .i64 l.of', .slice l.ea l.es.length l.ec] 25)).trans (hb2.mono (HB1.out.alloc HB1.out.size _).size))
  have HW2 := Lib.hid (HA1.out.trans (hb2.mono HA1.out.size))
  have S2 := Lib.hid (show w1.heap.size + 1 ≤ w2.heap.size from by have := hb2.size; simpa using this)
  clear hb2
  obtain ⟨p0, p1, p2, p3, p4, p5, p6, p7, p8, p9, p10⟩ := RL.out.cells
  go_wp2_with fail
  refine (HK18.out _ HW2.out).mono ?_
  rintro e w3 ⟨aa, ac, rfl, ha, han, hb3⟩
  have RL := Lib.hid (RL.out.kept hb3)
  have R1 := Lib.hid (R1.out.kept hb3)
  have HB3 := Lib.hid (HB2.out.trans (hb3.mono HB2.out.size))
  have HW3 := Lib.hid (HW2.out.trans (hb3.mono HW2.out.size))
  have Z3 := Lib.hid hb3.size
  have HA := Lib.hid ha
  have HAN := Lib.hid han
  have HRA := Lib.hid ha.lt
  clear hb3 ha han
  clear p0 p1 p2 p3 p4 p5 p6 p7 p8 p9 p10
  obtain ⟨p0, p1, p2, p3, p4, p5, p6, p7, p8, p9, p10⟩ := RL.out.cells
  go_wp2_with fail
  refine (HK19.out _ HW3.out).mono ?_
  rintro e w4 ⟨ba, bc, rfl, ha, han, hb4⟩
  have RL := Lib.hid (RL.out.kept hb4)
  have R1 := Lib.hid (R1.out.kept hb4)
  have HB4 := Lib.hid (HB3.out.trans (hb4.mono HB3.out.size))
  have HW4 := Lib.hid (HW3.out.trans (hb4.mono HW3.out.size))
  have Z4 := Lib.hid hb4.size
  have HA := Lib.hid (owns_below (B := 0) HA.out hb4)
  have HBB := Lib.hid ha
  have HBN := Lib.hid han
  have HRB := Lib.hid ha.lt
  clear hb4 ha han
  clear p0 p1 p2 p3 p4 p5 p6 p7 p8 p9 p10
  obtain ⟨p0, p1, p2, p3, p4, p5, p6, p7, p8, p9, p10⟩ := RL.out.cells
  go_wp2_with fail
  refine (HK18.out _ HW4.out).mono ?_
  rintro e w5 ⟨xa, xc, rfl, ha, han, hb5⟩
  have RL := Lib.hid (RL.out.kept hb5)
  have R1 := Lib.hid (R1.out.kept hb5)
  have HB5 := Lib.hid (HB4.out.trans (hb5.mono HB4.out.size))
  have HW5 := Lib.hid (HW4.out.trans (hb5.mono HW4.out.size))
  have Z5 := Lib.hid hb5.size
  have HA := Lib.hid (owns_below (B := 0) HA.out hb5)
  have HBB := Lib.hid (owns_below (B := 0) HBB.out hb5)
  have HX := Lib.hid ha
  have HXN := Lib.hid han
  have HRX := Lib.hid ha.lt
  clear hb5 ha han
  clear p0 p1 p2 p3 p4 p5 p6 p7 p8 p9 p10
  obtain ⟨p0, p1, p2, p3, p4, p5, p6, p7, p8, p9, p10⟩ := R1.out.cells
  go_wp2_with fail
  refine (HK20.out _ HB5.out).mono ?_
  rintro e w6 ⟨v, rfl, ha, hb6⟩
  obtain ⟨za, zc, rfl, hzn, _, _⟩ := owns_slice ha
  have RL := Lib.hid (RL.out.kept hb6)
  have R1 := Lib.hid (R1.out.kept hb6)
  have HB6 := Lib.hid (HB5.out.trans (hb6.mono HB5.out.size))
  have HW6 := Lib.hid (HW5.out.trans (hb6.mono HW5.out.size))
  have Z6 := Lib.hid hb6.size
  have HA := Lib.hid (owns_below (B := 0) HA.out hb6)
  have HBB := Lib.hid (owns_below (B := 0) HBB.out hb6)
  have HX := Lib.hid (owns_below (B := 0) HX.out hb6)
  have HZ := Lib.hid ha
  have HRZ := Lib.hid ha.lt
  clear hb6 ha hzn
  clear p0 p1 p2 p3 p4 p5 p6 p7 p8 p9 p10
  have HT := Lib.hid (show (termsV c != termsV c) = false by simp)
  have b0 := R1.out
  have d0 := RL.out
  have hd6 : Below w.heap.size w w6.drew := below_drawn HB6.out _
  go_wp2_with fail
  go_region_held3 (fun V => V.cell? ⟨w.heap.size, 0, none⟩ = some (.int .i64 c.num) ∧ V.cell? ⟨w.heap.size, 1, none⟩ = some (.int .i64 c.kind) ∧ V.cell? ⟨w.heap.size, 2, none⟩ = some (.int .i64 c.by') ∧ V.cell? ⟨w.heap.size, 3, none⟩ = some (.int .i64 c.dl) ∧ V.cell? ⟨w.heap.size, 4, none⟩ = some (.int .i64 c.to) ∧ V.cell? ⟨w.heap.size, 5, none⟩ = some (.int .i64 c.want) ∧ V.cell? ⟨w.heap.size, 6, none⟩ = some (.int .u64 c.price) ∧ V.cell? ⟨w.heap.size, 7, none⟩ = some (.int .u64 c.reserve) ∧ V.cell? ⟨w.heap.size, 8, none⟩ = some (.int .u64 c.step) ∧ V.cell? ⟨w.heap.size, 9, none⟩ = some (.int .i64 c.of') ∧ V.cell? ⟨w.heap.size, 10, none⟩ = some (.slice c.ea c.es.length c.ec) ∧ V.cell? ⟨w1.heap.size, 0, none⟩ = some (.int .i64 l.num) ∧ V.cell? ⟨w1.heap.size, 1, none⟩ = some (.int .i64 l.kind) ∧ V.cell? ⟨w1.heap.size, 2, none⟩ = some (.int .i64 l.by') ∧ V.cell? ⟨w1.heap.size, 3, none⟩ = some (.int .i64 l.dl) ∧ V.cell? ⟨w1.heap.size, 4, none⟩ = some (.int .i64 l.to) ∧ V.cell? ⟨w1.heap.size, 5, none⟩ = some (.int .i64 l.want) ∧ V.cell? ⟨w1.heap.size, 6, none⟩ = some (.int .u64 l.price) ∧ V.cell? ⟨w1.heap.size, 7, none⟩ = some (.int .u64 l.reserve) ∧ V.cell? ⟨w1.heap.size, 8, none⟩ = some (.int .u64 l.step) ∧ V.cell? ⟨w1.heap.size, 9, none⟩ = some (.int .i64 l.of') ∧ V.cell? ⟨w1.heap.size, 10, none⟩ = some (.slice l.ea l.es.length l.ec)) ((first | with_reducible assumption | exact two_drew b0 d0 | with_reducible exact two_cells b2 d2 | with_reducible exact two_cells b3 d3 | with_reducible exact two_cells b4 d4 | with_reducible exact two_cells b5 d5 | with_reducible exact two_cells b6 d6 | with_reducible exact two_cells b7 d7))
    ((first
      | (go_at_call 13; with_reducible refine (num_any _ _).mono ?_; rintro e y1 ⟨rfl, rfl⟩)
      | (go_at_call 21; with_reducible refine (HK21.out _ hd6).mono ?_; rintro e y2 ⟨rfl, hy⟩; have hz2 := below_of_drew hy; have b2 := b0.kept hz2; have d2 := d0.kept hz2)
      | (go_at_call 23; with_reducible refine (HK23.out _ (HB6.out.trans (hz2.mono HB6.out.size))).mono ?_; rintro e y3 ⟨vv, rfl, hv3, hy3⟩; obtain ⟨va, vc, rfl, hvn, _, _⟩ := owns_slice hv3; have hz3 := hz2.trans (hy3.mono hz2.size); have b3 := b2.kept hy3; have d3 := d2.kept hy3)
      | (go_at_call 22; with_reducible refine (gifts_true aa va _ _ _ _ HGL.out ((sl_owns HA.out).kept hz3) (sl_owns hv3)).mono ?_; rintro e y4 ⟨rfl, hq4⟩; have hy4 := hq4.below y3.heap.size; have hz4 := hz3.trans (hy4.mono hz3.size); have b4 := b3.kept hy4; have d4 := d3.kept hy4)
      | (go_at_call 22; with_reducible refine (gifts_true ba za _ _ _ _ HGL.out ((sl_owns HBB.out).kept hz4) ((sl_owns HZ.out).kept hz4)).mono ?_; rintro e y5 ⟨rfl, hq5⟩; have hy5 := hq5.below y4.heap.size; have hz5 := hz4.trans (hy5.mono hz4.size); have b5 := b4.kept hy5; have d5 := d4.kept hy5)
      | (go_at_call 22; with_reducible refine (gifts_true xa za _ _ _ _ HGL.out ((sl_owns HX.out).kept hz5) ((sl_owns HZ.out).kept hz5)).mono ?_; rintro e y6 ⟨rfl, hq6⟩; have hy6 := hq6.below y5.heap.size; have hz6 := hz5.trans (hy6.mono hz5.size); have b6 := b5.kept hy6; have d6 := d5.kept hy6)
      | (go_at_call 15; with_reducible refine (K15.out _ (((HML.out.kept HW6.out)).kept hz6) (HB6.out.trans (hz6.mono HB6.out.size))).mono ?_; rintro e y7 ⟨rfl, hy7⟩; have hz7 := hz6.trans (hy7.mono hz6.size); have b7 := b6.kept hy7; have d7 := d6.kept hy7)))
  have HB7 := Lib.hid (HB6.out.trans (hz7.mono HB6.out.size))
  have HML7 := Lib.hid (((HML.out.kept HW6.out)).kept hz7)
  have HA7 := Lib.hid (owns_below (B := 0) HA.out hz7)
  have HBB7 := Lib.hid (owns_below (B := 0) HBB.out hz7)
  have HX7 := Lib.hid (owns_below (B := 0) HX.out hz7)
  have HZ7 := Lib.hid (owns_below (B := 0) HZ.out hz7)
  have R7 := Lib.hid b7
  have RL7 := Lib.hid d7
  clear b0 d0 b2 d2 b3 d3 b4 d4 b5 d5 b6 d6 b7 d7 hz2 hz3 hz4 hz5 hz6 hz7 hy hy3 hy4 hy5 hy6 hy7 hq4 hq5 hq6 hv3 hvn hd6
  have K24 := Lib.hid (spoilG_any (fun k => w2.heap.size ≤ k ∧ k < w3.heap.size) aa (backV c.es).length y7 HGL.out (fun h => (HAN.out h).1) (GS.of_owns HA7.out (fun k hk => HRA.out k hk)))
  go_wp2_with fail
  with_reducible refine K24.out.mono ?_
  rintro e w8 ⟨rfl, ho8⟩
  have h2 := S2.out
  have h1 := S1.out
  have h3 := Z3.out
  have h4 := Z4.out
  have h5 := Z5.out
  have h6 := Z6.out
  have HBB8 := Lib.hid (ho8.owns HBB7.out (fun k hk => by have := HRB.out k hk; omega))
  have HX8 := Lib.hid (ho8.owns HX7.out (fun k hk => by have := HRX.out k hk; omega))
  have HZ8 := Lib.hid (ho8.owns HZ7.out (fun k hk => by have := HRZ.out k hk; omega))
  have R8 := Lib.hid (R7.out.only ho8 (by omega))
  have RL8 := Lib.hid (RL7.out.only ho8 (by omega))
  have HML8 := Lib.hid (HML7.out.only ho8 (fun k hk => by have := HRL.out k hk; simp only [Rn, World.size_alloc] at this; omega) (fun e he k hk => by have := HRW.out e he k hk; simp only [Rn, World.size_alloc] at this; omega))
  have HB8 := Lib.hid (HB7.out.trans (ho8.below HB7.out.size (fun k hk => by omega)))
  have K25 := Lib.hid (spoilG_any (fun k => w3.heap.size ≤ k ∧ k < w4.heap.size) ba (backV c.es).length w8 HGL.out (fun h => (HBN.out h).1) (GS.of_owns HBB8.out (fun k hk => HRB.out k hk)))
  clear ho8 h1 h2 h3 h4 h5 h6
  go_wp2_with fail
  with_reducible refine K25.out.mono ?_
  rintro e w9 ⟨rfl, ho9⟩
  have h2 := S2.out
  have h1 := S1.out
  have h3 := Z3.out
  have h4 := Z4.out
  have h5 := Z5.out
  have h6 := Z6.out
  have HX9 := Lib.hid (ho9.owns HX8.out (fun k hk => by have := HRX.out k hk; omega))
  have HZ9 := Lib.hid (ho9.owns HZ8.out (fun k hk => by have := HRZ.out k hk; omega))
  have R9 := Lib.hid (R8.out.only ho9 (by omega))
  have RL9 := Lib.hid (RL8.out.only ho9 (by omega))
  have HML9 := Lib.hid (HML8.out.only ho9 (fun k hk => by have := HRL.out k hk; simp only [Rn, World.size_alloc] at this; omega) (fun e he k hk => by have := HRW.out e he k hk; simp only [Rn, World.size_alloc] at this; omega))
  have HB9 := Lib.hid (HB8.out.trans (ho9.below HB8.out.size (fun k hk => by omega)))
  clear ho9 h1 h2 h3 h4 h5 h6
  go_wp2_with fail
  with_reducible refine (gifts_true xa za _ _ _ _ HGL.out (sl_owns HX9.out) (sl_owns HZ9.out)).mono ?_
  rintro e w10 ⟨rfl, hq⟩
  have hb := hq.below w9.heap.size
  have R10 := Lib.hid (R9.out.kept hb)
  have RL10 := Lib.hid (RL9.out.kept hb)
  have HML10 := Lib.hid (HML9.out.kept hb)
  have HB10 := Lib.hid (HB9.out.trans (hb.mono HB9.out.size))
  clear hb hq
  obtain ⟨p0, p1, p2, p3, p4, p5, p6, p7, p8, p9, p10⟩ := R10.out.cells
  obtain ⟨q0, q1, q2, q3, q4, q5, q6, q7, q8, q9, q10⟩ := RL10.out.cells
  go_wp2_with fail
  with_reducible refine (K15.out _ HML10.out HB10.out).mono ?_
  rintro e w11 ⟨rfl, hb⟩
  have HB11 := Lib.hid (HB10.out.trans (hb.mono HB10.out.size))
  clear hb
  go_wp2
  go_ret
  exact ⟨rfl, HB11.out⟩
theorem own : ownKnob Try.prog.godebug = none := by kernel_rfl
theorem laidOut : laidOutB Try.prog = true := by kernel_rfl
set_option maxRecDepth 100000 in
theorem lifted (os : Os) (started : os.Started) (H : Type) (enc : TypeId × Value → H) :
    ReturnsInHanded {} Try.checked os 4 .any (Rows.tradeTermsSpec.pre6 enc Try.prog Try.f4 Rows.tradeTermsRow.domain false) (Rows.tradeTermsSpec.post enc Try.prog Try.f4 false true false false) := by
  refine returnsInHanded_of_change_sized (C := Try.checked) own started (by kernel_rfl) Try.func4
    (ChangeSpec.witness6 (enc := enc) (C := Try.checked) false ⟨#[], #[.agg #[.int .i64 0, .int .i64 0, .int .i64 0, .int .i64 0, .int .i64 0, .int .i64 0, .int .u64 0, .int .u64 0, .int .u64 0, .int .i64 0, .slice none 0 0]], []⟩ 8 (by kernel_rfl) (by kernel_rfl) (by kernel_rfl) (by kernel_rfl)) ?_
  intro W base args ds gs before hval0 hW hcnd hsz0 _
  have hsz : (DataW.weightsEach Try.prog (Try.f4.params.toList ++ Rows.tradeTermsSpec.plain.varTypes Try.prog) (ds ++ gs)).all (· ≤ reachBytes) = true := hsz0
  clear hsz0
  have hval : ∀ (j : Nat) t v, Try.f4.params[j]? = some t → args[j]? = some v → Value.okWide Try.prog W .any base t v := hval0
  have hW' := hW
  obtain ⟨p, q, hA0, hV, rfl, hfz, hnd⟩ := hW
  have hA : DataW.TrodAll enc Try.prog W 0 (fun _ => true) true Try.f4.params.toList args.toList ds p := hA0
  rw [Try.params4] at hA hval hsz
  obtain ⟨v0, vs0, d0, ds0, p0, q0, hargs, rfl, rfl, h0, r0⟩ := trodAll_cons hA
  obtain ⟨rfl, rfl, rfl⟩ := trodAll_nil r0
  obtain rfl : args = #[v0] := by cases args; simp_all
  obtain ⟨rfl, rfl⟩ := trodVars_none hV
  have k0 := h0
  have lt0 : ∀ x ∈ p0, x.block < W.heap.size := by obtain ⟨m, hm⟩ := k0; exact DataW.trod_lt m _ _ _ hm
  obtain ⟨c0, rfl, n0⟩ := open_con (hval 0 25 v0 rfl rfl) h0 hsz (j := 0) rfl rfl
  clear hA0 hval0
  refine (walk c0 W n0).mono fun e W' ⟨he, bel⟩ => ?_
  subst he
  exact ⟨_, rfl, _, _, _, [], _, [], hW', trodAll_mk1 (shut_bool Try.underlying4 _), (trodAll_cons_mk (Below.trod laidOut (by kernel_rfl) (of_decide_eq_true (by kernel_rfl)) k0 bel lt0) trodAll_mk0), rfl, bel.frame _, fun h => by cases h⟩
theorem over : Rows.tradeTermsRow.holds Try.pinned (OpenSpec.ofChange Rows.tradeTermsSpec) :=
  OpenClaim.holds_of_wide 4 Try.f4 rfl rfl rfl rfl rfl rfl rfl ⟨rfl, rfl, rfl, rfl, rfl⟩ rfl rfl rfl rfl rfl (by kernel_rfl) Try.func4 (by kernel_rfl)
    (of_decide_eq_true (by kernel_rfl)) (by unfold Func.isWrapper; first | (rw [if_pos (by decide +kernel)]; kernel_rfl) | (rw [if_neg (by decide +kernel)]; exact ⟨rfl, rfl⟩))
    (fun os started H enc _ => lifted os started H enc)
theorem proved : Rows.TradeTermsSaid := over
#print axioms proved
end Go.Proofs.Ytiafhgcnjgpeaaa.lawTradeTerms
