/-
  Layer 21: End, the document's.
-/
import Derived.Test.YtpejcndfplbikaaVl
namespace Go.Proofs.Ytpejcndfplbikaa
open Go.RowKit Go.K
set_option linter.unusedVariables false
set_option linter.unusedSimpArgs false
/-- What the document's walk keeps. -/
structure RInv (wB : World) (W : World) (v : Value) (gs : List Gi) : Prop where
  bel : Below wB.heap.size wB W
  row : W.ownsRow wB.heap.size 64 3 v gs.length (gFlat gs)
theorem RInv.next {wB W W1 W2 : World} {v v2 : Value} {gs hs : List Gi} (h : RInv wB W v gs) (hb : Below W.heap.size W W1)
    (ho : W2.ownsRow wB.heap.size 64 3 v2 (gs.length + hs.length) (gFlat gs ++ gFlat hs)) (hg : W1.grownBy W2 v.ownBlock) : RInv wB W2 v2 (gs ++ hs) :=
  ⟨(h.bel.trans (hb.mono h.bel.size)).grown hg (h.bel.trans (hb.mono h.bel.size)).size (fun k hk => (h.row.lt k hk).1), by rw [List.length_append, gFlat_append]; exact ho⟩
theorem giveL_in (t i c : Int) : giveL t i c = giveL t i 0 ++ giveL t 0 c := (giveL_two t i c).symm
set_option maxRecDepth 100000 in
set_option maxHeartbeats 4000000 in
theorem rend_any (c : Con) (w : World) (hc : ConOk w c) : Calls Try.prog 18 #[c.agg] w fun r w' => OwnG w.heap.size w' r (endL c.kind c.reserve (c.es.map Ent.d)) ∧ Below w.heap.size w w' := by
  have HC := Lib.hid hc
  have hm := hc.mx
  have HKW := Lib.hid (fun V (h : Below w.heap.size w V) => winner_any c V (hc.kept h))
  have HKB := Lib.hid (fun V (h : Below w.heap.size w V) => rback_all c V (hc.kept h))
  have HEL := Lib.hid (show endL c.kind c.reserve (c.es.map Ent.d) = if (winV c.kind c.reserve (c.es.map Ent.d)).1 = 0 then backP (c.es.map Ent.d) c.es.length else endP (c.es.map Ent.d) (winV c.kind c.reserve (c.es.map Ent.d)).1 (winV c.kind c.reserve (c.es.map Ent.d)).2 c.es.length by unfold endL; rw [List.length_map])
  have HWL := Lib.hid (show (winV c.kind c.reserve (c.es.map Ent.d)).1 = 0 ∨ (winV c.kind c.reserve (c.es.map Ent.d)).1 < c.es.length by have h := winV_lt c.kind c.reserve (c.es.map Ent.d); rw [List.length_map] at h; exact h)
  have HFD := Lib.hid (fun V (h : Below w.heap.size w V) i hi => (HC.out.kept h).entD i hi)
  have HB := Lib.hid (fun X => (Below.refl w.heap.size w).alloc (Nat.le_refl _) X)
  have HR := Lib.hid (show (w.alloc (.cells #[.int .i64 c.num, .int .i64 c.kind, .int .i64 c.by', .int .i64 c.dl, .int .i64 c.to', .int .i64 c.want, .int .u64 c.price, .int .u64 c.reserve, .int .u64 c.step, .int .i64 c.of', .slice c.ea c.es.length c.ec] 25)).heap[w.heap.size]? = some (.cells #[.int .i64 c.num, .int .i64 c.kind, .int .i64 c.by', .int .i64 c.dl, .int .i64 c.to', .int .i64 c.want, .int .u64 c.price, .int .u64 c.reserve, .int .u64 c.step, .int .i64 c.of', .slice c.ea c.es.length c.ec] 25) from alloc_at rfl)
  clear hc
  generalize hwv : winV c.kind c.reserve (c.es.map Ent.d) = wv at *
  generalize hds : c.es.map Ent.d = ds at *
  generalize hel : endL c.kind c.reserve ds = el at *
  clear hwv hel
  obtain ⟨a, p⟩ := wv
  simp only at HEL HWL
  unfold Con.agg at HKW HKB ⊢
  go_enter Try.func18, Try.ntmps18
  go_wp2_with fail
  refine (HKW.out _ (HB.out _)).mono ?_
  rintro r0 w2 ⟨rfl, hb⟩
  have HR2 := Lib.hid (row_kept HR.out hb)
  have HB2 := Lib.hid ((HB.out _).trans (hb.mono (HB.out _).size))
  obtain ⟨y0, y1, y2, y3, y4, y5, y6, y7, y8, y9, y10⟩ := cells11 HR2.out
  clear hb HKW HR
  by_cases ha : a = 0
  · have c4 : ((a : Int) == 0) = true := by simp; omega
    have HE := Lib.hid (HEL.out.trans (if_pos ha))
    clear ha HEL HWL hds HC HFD
    go_wp2_with fail
    refine (HKB.out _ HB2.out).mono ?_
    rintro r2 w3 ⟨⟨ad, cap, rfl, ho⟩, hb⟩
    have HO := Lib.hid (OwnG.mk (owns_base ho HB2.out.size))
    have HB3 := Lib.hid (HB2.out.trans (hb.mono HB2.out.size))
    clear ho hb
    go_wp2
    go_ret
    rw [HE.out]
    exact ⟨HO.out, HB3.out⟩
  have c4 : ((a : Int) == 0) = false := by simp; omega
  have han : a < c.es.length := by have := HWL.out; omega
  have HE := Lib.hid (HEL.out.trans (if_neg ha))
  clear HEL HWL HKB y0 y1 y2 y3 y4 y5 y6 y7 y8 y9
  obtain ⟨ob, oo, pr0, wa0, ws0, wk0, hea, f0, f1, f2, f3, f4⟩ := HFD.out _ HB2.out 0 (by omega)
  obtain ⟨_, _, pra, waa, wsa, wka, hea2, g0, g1, g2, g3, g4⟩ := HFD.out _ HB2.out a han
  rw [hea] at hea2
  cases hea2
  have HOB := Lib.hid (show ob < w.heap.size by
    obtain ⟨_, _, _, _, _, _, he, q0, _⟩ := HC.out.entD 0 (by omega)
    rw [hea] at he
    cases he
    exact World.block_lt_of_cell? w _ q0)
  have HEA := Lib.hid hea
  have HDS := Lib.hid hds
  rw [hea] at y10
  simp only [Nat.zero_mul, Nat.add_zero] at f0 f1 f2 f3 f4
  have i0 : (0 : Int) < (c.es.length : Int) := by omega
  have i2 : (a : Int) < (c.es.length : Int) := by omega
  have ha1 : 1 ≤ a := by omega
  clear ha hds hea
  -- two boxes
  have HBB := Lib.hid (show Below w.heap.size w ((w2.alloc (.cells #[.int .i64 (dA ds 0), .int .i64 (dI ds 0), .int .u64 (dC ds 0), .int .u64 pr0, .slice wa0 ws0.length wk0] 33)).alloc (.cells #[.int .i64 (dA ds a), .int .i64 (dI ds a), .int .u64 (dC ds a), .int .u64 pra, .slice waa wsa.length wka] 33)) from (HB2.out.alloc HB2.out.size _).alloc (Nat.le_trans HB2.out.size (by simp)) _)
  have HS0 := Lib.hid (show ((w2.alloc (.cells #[.int .i64 (dA ds 0), .int .i64 (dI ds 0), .int .u64 (dC ds 0), .int .u64 pr0, .slice wa0 ws0.length wk0] 33)).alloc (.cells #[.int .i64 (dA ds a), .int .i64 (dI ds a), .int .u64 (dC ds a), .int .u64 pra, .slice waa wsa.length wka] 33)).heap[w2.heap.size]? = some (.cells #[.int .i64 (dA ds 0), .int .i64 (dI ds 0), .int .u64 (dC ds 0), .int .u64 pr0, .slice wa0 ws0.length wk0] 33) from alloc_old (alloc_at rfl))
  have HS1 := Lib.hid (show ((w2.alloc (.cells #[.int .i64 (dA ds 0), .int .i64 (dI ds 0), .int .u64 (dC ds 0), .int .u64 pr0, .slice wa0 ws0.length wk0] 33)).alloc (.cells #[.int .i64 (dA ds a), .int .i64 (dI ds a), .int .u64 (dC ds a), .int .u64 pra, .slice waa wsa.length wka] 33)).heap[w2.heap.size + 1]? = some (.cells #[.int .i64 (dA ds a), .int .i64 (dI ds a), .int .u64 (dC ds a), .int .u64 pra, .slice waa wsa.length wka] 33) from alloc_at (by simp))
  have HRB := Lib.hid (alloc_old (alloc_old HR2.out : (w2.alloc (.cells #[.int .i64 (dA ds 0), .int .i64 (dI ds 0), .int .u64 (dC ds 0), .int .u64 pr0, .slice wa0 ws0.length wk0] 33)).heap[w.heap.size]? = _) : ((w2.alloc (.cells #[.int .i64 (dA ds 0), .int .i64 (dI ds 0), .int .u64 (dC ds 0), .int .u64 pr0, .slice wa0 ws0.length wk0] 33)).alloc (.cells #[.int .i64 (dA ds a), .int .i64 (dI ds a), .int .u64 (dC ds a), .int .u64 pra, .slice waa wsa.length wka] 33)).heap[w.heap.size]? = _)
  have zA : ∀ X, (w2.alloc X).cell? ⟨w.heap.size, 10, none⟩ = some (.slice (some ⟨ob, oo, none⟩) c.es.length c.ec) := fun X => below_cell ((Below.refl w2.heap.size w2).alloc (Nat.le_refl _) X) y10
  have gA0 : ∀ X, (w2.alloc X).cell? ⟨ob, oo + a * 5, none⟩ = _ := fun X => below_cell ((Below.refl w2.heap.size w2).alloc (Nat.le_refl _) X) g0
  have gA1 : ∀ X, (w2.alloc X).cell? ⟨ob, oo + a * 5 + 1, none⟩ = _ := fun X => below_cell ((Below.refl w2.heap.size w2).alloc (Nat.le_refl _) X) g1
  have gA2 : ∀ X, (w2.alloc X).cell? ⟨ob, oo + a * 5 + 2, none⟩ = _ := fun X => below_cell ((Below.refl w2.heap.size w2).alloc (Nat.le_refl _) X) g2
  have gA3 : ∀ X, (w2.alloc X).cell? ⟨ob, oo + a * 5 + 3, none⟩ = _ := fun X => below_cell ((Below.refl w2.heap.size w2).alloc (Nat.le_refl _) X) g3
  have gA4 : ∀ X, (w2.alloc X).cell? ⟨ob, oo + a * 5 + 4, none⟩ = _ := fun X => below_cell ((Below.refl w2.heap.size w2).alloc (Nat.le_refl _) X) g4
  go_wp2_with fail
  obtain ⟨wB, hwB⟩ : ∃ W, W = (w2.alloc (.cells #[.int .i64 (dA ds 0), .int .i64 (dI ds 0), .int .u64 (dC ds 0), .int .u64 pr0, .slice wa0 ws0.length wk0] 33)).alloc (.cells #[.int .i64 (dA ds a), .int .i64 (dI ds a), .int .u64 (dC ds a), .int .u64 pra, .slice waa wsa.length wka] 33) := ⟨_, rfl⟩
  rw [← hwB] at HBB HS0 HS1 HRB ⊢
  clear hwB f0 f1 f2 f3 f4 y10 zA g0 g1 g2 g3 g4 gA0 gA1 gA2 gA3 gA4
  have HI0 := Lib.hid (show RInv wB wB (.slice none 0 0) [] from ⟨Below.refl _ _, World.ownsRow_nil _ _ _ _⟩)
  have gl0 := giveL_le (dA ds a) (dI ds 0) 0
  have gl1 := giveL_le (dA ds 0) 0 (dC ds 0)
  refine (thing_any _ _ _).mono ?_
  rintro e0' x0 ⟨⟨ad0, cp0, rfl, ho0⟩, hb0⟩
  obtain ⟨hn0, hs0⟩ := own_sl ho0
  go_wp2_with (at_builtin; refine wpList_append_sl rfl _ _ 27 rfl wB.heap.size 64 (.agg #[.int .i64 0, .int .i64 0, .int .u64 0]) 3 24 Try.underlying27 infoG rfl (by decide) (.slice none 0 0) _ _ rfl (owns_below (B := 0) HI0.out.row hb0) ad0 _ cp0 _ rfl hn0 (gFlat_length _) hs0 (oneCell_gFlat _) ?s0a ?s0b ?s0c ?s0d)
  case s0a => simp only [List.length_nil]; unfold maxLen; omega
  case s0b => simp only [List.length_nil]; omega
  case s0c => have h1 := HI0.out.bel.size; have h2 := hb0.size; omega
  intro v1 x1w ho0' hg0'
  have HI1 := Lib.hid (HI0.out.next (hs := giveL (dA ds a) (dI ds 0) 0) hb0 (by simpa [gFlat] using ho0') hg0')
  clear ho0' hg0' ho0 hb0 hn0 hs0
  obtain ⟨p10, p11, p12, p13, p14⟩ := cells5 (row_kept HS0.out HI1.out.bel)
  obtain ⟨q10, q11, q12, q13, q14⟩ := cells5 (row_kept HS1.out HI1.out.bel)
  go_wp2_with fail
  refine (coins_any _ _ _).mono ?_
  rintro e1' x1 ⟨⟨ad1, cp1, rfl, ho1⟩, hb1⟩
  obtain ⟨hn1, hs1⟩ := own_sl ho1
  go_wp2_with (at_builtin; refine wpList_append_sl rfl _ _ 27 rfl wB.heap.size 64 (.agg #[.int .i64 0, .int .i64 0, .int .u64 0]) 3 24 Try.underlying27 infoG rfl (by decide) v1 _ _ rfl (owns_below (B := 0) HI1.out.row hb1) ad1 _ cp1 _ rfl hn1 (gFlat_length _) hs1 (oneCell_gFlat _) ?s1a ?s1b ?s1c ?s1d)
  case s1a => simp only [List.length_nil, List.nil_append]; unfold maxLen; omega
  case s1b => simp only [List.length_nil, List.nil_append]; omega
  case s1c => have h1 := HI1.out.bel.size; have h2 := hb1.size; omega
  intro v2 x2w ho1' hg1'
  have HI2 := Lib.hid (HI1.out.next (hs := giveL (dA ds 0) 0 (dC ds 0)) hb1 (by simpa only [List.length_append, List.length_nil, Nat.zero_add, List.nil_append, List.append_assoc, Nat.add_assoc] using ho1') hg1')
  clear ho1' hg1' ho1 hb1 hn1 hs1
  clear p10 p11 p12 p13 p14 q10 q11 q12 q13 q14
  have HI := Lib.hid (show RInv wB x2w v2 (endP ds a p 1) from by have h := HI2.out; simp only [List.nil_append] at h; show RInv wB x2w v2 ([] ++ endS ds a p 0); rw [List.nil_append]; unfold endS; rw [if_pos rfl]; exact h)
  clear HI0 HI1 HI2 gl0 gl1
  have z2 : _ := (cells11 (row_kept HRB.out HI.out.bel)).2.2.2.2.2.2.2.2.2.2
  rw [HEA.out] at z2
  go_wp2
  go_loopw [5, 8] (fun v' i wr => ∃ (j : Nat) (v : Value), v = v' ∧ 1 ≤ j ∧ j ≤ c.es.length ∧ i = .int .i64 j ∧ RInv wB wr v (endP ds a p j)) (fun _ i _ => c.es.length - (intOf i).toNat)
  case atStart => exact ⟨1, _, rfl, by omega, by omega, rfl, HI.out⟩
  case round =>
    clear HI z2
    obtain ⟨j, v, hv, hj1, hj, rfl, hi⟩ := hrel
    subst hv
    have HI := Lib.hid hi
    clear hi
    obtain ⟨p30, p31, p32, p33, p34⟩ := cells5 (row_kept HS0.out HI.out.bel)
    obtain ⟨q30, q31, q32, q33, q34⟩ := cells5 (row_kept HS1.out HI.out.bel)
    have z3 : _ := (cells11 (row_kept HRB.out HI.out.bel)).2.2.2.2.2.2.2.2.2.2
    rw [HEA.out] at z3
    by_cases hlt : j < c.es.length
    · have t0 : decide ((j : Int) < (c.es.length : Int)) = true := by simp; omega
      have i1 : (j : Int) < (c.es.length : Int) := by omega
      have HN := Lib.hid (show endP ds a p (j + 1) = endP ds a p j ++ endS ds a p j from rfl)
      have hsn : (endP ds a p j).length ≤ 5700000000000 := by have := endP_le ds a p j; split at this <;> omega
      by_cases hja : j = a
      · have d1 : ((j : Int) != (a : Int)) = false := by simp; omega
        have HS := Lib.hid (show endS ds a p j = giveL (dA ds a) (dI ds a) 0 ++ giveL (dA ds 0) 0 p ++ giveL (dA ds a) 0 (IntKind.u64.wrap (dC ds a - p)) by unfold endS; rw [if_neg (by omega), if_pos hja])
        have l1 := giveL_le (dA ds a) (dI ds a) 0
        have l2 := giveL_le (dA ds 0) 0 p
        have l3 := giveL_le (dA ds a) 0 (IntKind.u64.wrap (dC ds a - p))
        clear hja
        go_wp2_with fail
        refine (thing_any _ _ _).mono ?_
        rintro e2' x2 ⟨⟨ad2, cp2, rfl, ho2⟩, hb2⟩
        obtain ⟨hn2, hs2⟩ := own_sl ho2
        go_wp2_with (at_builtin; refine wpList_append_sl rfl _ _ 27 rfl wB.heap.size 64 (.agg #[.int .i64 0, .int .i64 0, .int .u64 0]) 3 24 Try.underlying27 infoG rfl (by decide) v _ _ rfl (owns_below (B := 0) HI.out.row hb2) ad2 _ cp2 _ rfl hn2 (gFlat_length _) hs2 (oneCell_gFlat _) ?s2a ?s2b ?s2c ?s2d)
        case s2a =>  unfold maxLen; omega
        case s2b =>  omega
        case s2c => have h1 := HI.out.bel.size; have h2 := hb2.size; omega
        intro v4 x4w ho2' hg2'
        have HI4 := Lib.hid (HI.out.next (hs := giveL (dA ds a) (dI ds a) 0) hb2 (by simpa only [List.length_append, List.length_nil, Nat.zero_add, List.nil_append, List.append_assoc, Nat.add_assoc] using ho2') hg2')
        clear ho2' hg2' ho2 hb2 hn2 hs2
        obtain ⟨p40, p41, p42, p43, p44⟩ := cells5 (row_kept HS0.out HI4.out.bel)
        obtain ⟨q40, q41, q42, q43, q44⟩ := cells5 (row_kept HS1.out HI4.out.bel)
        clear p30 p31 p32 p33 p34 q30 q31 q32 q33 q34
        go_wp2_with fail
        refine (coins_any _ _ _).mono ?_
        rintro e3' x3 ⟨⟨ad3, cp3, rfl, ho3⟩, hb3⟩
        obtain ⟨hn3, hs3⟩ := own_sl ho3
        go_wp2_with (at_builtin; refine wpList_append_sl rfl _ _ 27 rfl wB.heap.size 64 (.agg #[.int .i64 0, .int .i64 0, .int .u64 0]) 3 24 Try.underlying27 infoG rfl (by decide) v4 _ _ rfl (owns_below (B := 0) HI4.out.row hb3) ad3 _ cp3 _ rfl hn3 (gFlat_length _) hs3 (oneCell_gFlat _) ?s3a ?s3b ?s3c ?s3d)
        case s3a => simp only [List.length_append]; unfold maxLen; omega
        case s3b => simp only [List.length_append]; omega
        case s3c => have h1 := HI4.out.bel.size; have h2 := hb3.size; omega
        intro v5 x5w ho3' hg3'
        have HI5 := Lib.hid (HI4.out.next (hs := giveL (dA ds 0) 0 p) hb3 (by simpa only [List.length_append, List.length_nil, Nat.zero_add, List.nil_append, List.append_assoc, Nat.add_assoc] using ho3') hg3')
        clear ho3' hg3' ho3 hb3 hn3 hs3
        obtain ⟨q50, q51, q52, q53, q54⟩ := cells5 (row_kept HS1.out HI5.out.bel)
        clear p40 p41 p42 p43 p44 q40 q41 q42 q43 q44
        go_wp2_with fail
        refine (coins_any _ _ _).mono ?_
        rintro e4' x4 ⟨⟨ad4, cp4, rfl, ho4⟩, hb4⟩
        obtain ⟨hn4, hs4⟩ := own_sl ho4
        go_wp2_with (at_builtin; refine wpList_append_sl rfl _ _ 27 rfl wB.heap.size 64 (.agg #[.int .i64 0, .int .i64 0, .int .u64 0]) 3 24 Try.underlying27 infoG rfl (by decide) v5 _ _ rfl (owns_below (B := 0) HI5.out.row hb4) ad4 _ cp4 _ rfl hn4 (gFlat_length _) hs4 (oneCell_gFlat _) ?s4a ?s4b ?s4c ?s4d)
        case s4a => simp only [List.length_append]; unfold maxLen; omega
        case s4b => simp only [List.length_append]; omega
        case s4c => have h1 := HI5.out.bel.size; have h2 := hb4.size; omega
        intro v6 x6w ho4' hg4'
        have HI6 := Lib.hid (HI5.out.next (hs := giveL (dA ds a) 0 (IntKind.u64.wrap (dC ds a - p))) hb4 (by simpa only [List.length_append, List.length_nil, Nat.zero_add, List.nil_append, List.append_assoc, Nat.add_assoc] using ho4') hg4')
        clear ho4' hg4' ho4 hb4 hn4 hs4
        clear q50 q51 q52 q53 q54
        have HF := Lib.hid (show RInv wB x6w v6 (endP ds a p (j + 1)) by rw [HN.out, HS.out]; have h := HI6.out; rw [List.append_assoc, List.append_assoc] at h; rw [List.append_assoc]; exact h)
        clear HI4 HI5 HI6
        go_wp2
        go_roundw
        case rel => exact ⟨j + 1, _, rfl, by omega, by omega, by go_num, HF.out⟩
        case measure => simp [intOf]; omega
      · have d1 : ((j : Int) != (a : Int)) = true := by simp; omega
        have HS := Lib.hid (show endS ds a p j = giveL (dA ds j) (dI ds j) (dC ds j) by unfold endS; rw [if_neg (by omega), if_neg hja])
        obtain ⟨_, _, prj, waj, wsj, wkj, hea, f0, f1, f2, f3, f4⟩ := HFD.out _ (HBB.out.trans (HI.out.bel.mono HBB.out.size)) j hlt
        rw [HEA.out] at hea
        cases hea
        clear hja
        have HK := Lib.hid (fun V => rback_any ⟨dA ds j, dI ds j, dC ds j, prj, waj, wkj, wsj⟩ V)
        have l1 : (Ent.back ⟨dA ds j, dI ds j, dC ds j, prj, waj, wkj, wsj⟩).length ≤ 2 := giveL_le _ _ _
        unfold Ent.agg at HK
        simp only at HK
        go_wp2_with fail
        refine (HK.out _).mono ?_
        rintro e5' x5 ⟨⟨ad5, cp5, rfl, ho5⟩, hb5⟩
        obtain ⟨hn5, hs5⟩ := own_sl ho5
        go_wp2_with (at_builtin; refine wpList_append_sl rfl _ _ 27 rfl wB.heap.size 64 (.agg #[.int .i64 0, .int .i64 0, .int .u64 0]) 3 24 Try.underlying27 infoG rfl (by decide) v _ _ rfl (owns_below (B := 0) HI.out.row hb5) ad5 _ cp5 _ rfl hn5 (gFlat_length _) hs5 (oneCell_gFlat _) ?s5a ?s5b ?s5c ?s5d)
        case s5a =>  unfold maxLen; omega
        case s5b =>  omega
        case s5c => have h1 := HI.out.bel.size; have h2 := hb5.size; omega
        intro v7 x7w ho5' hg5'
        have HI7 := Lib.hid (HI.out.next (hs := Ent.back ⟨dA ds j, dI ds j, dC ds j, prj, waj, wkj, wsj⟩) hb5 (by simpa only [List.length_append, List.length_nil, Nat.zero_add, List.nil_append, List.append_assoc, Nat.add_assoc] using ho5') hg5')
        clear ho5' hg5' ho5 hb5 hn5 hs5
        have HF := Lib.hid (show RInv wB x7w v7 (endP ds a p (j + 1)) by rw [HN.out, HS.out]; exact HI7.out)
        clear HI7
        go_wp2
        go_roundw
        case rel => exact ⟨j + 1, _, rfl, by omega, by omega, by go_num, HF.out⟩
        case measure => simp [intOf]; omega
    · have t0 : decide ((j : Int) < (c.es.length : Int)) = false := by simp; omega
      have HJ := Lib.hid (show j = c.es.length by omega)
      go_wp2
      go_ret
      rw [HE.out]
      refine ⟨OwnG.mk ?_, HBB.out.trans (HI.out.bel.mono HBB.out.size)⟩
      have h := owns_base HI.out.row HBB.out.size
      rw [HJ.out] at h
      exact h
end Go.Proofs.Ytpejcndfplbikaa
