/-
  Of every contract and entry what Join answers is the document's, told twice; what was handed in stays; written over, it does not show in what was told before.
  No condition beyond the statement's own.
-/
import Derived.Test.YtiafhgcnjgpeaaaYf
namespace Go.Proofs.Ytiafhgcnjgpeaaa.lawTradeJoins
open Go.RowKit Go.K Go.ChangeShapes Go.WideShapes Go.ChangeAt
set_option linter.unusedVariables false
set_option linter.unusedSimpArgs false
set_option maxRecDepth 100000 in
set_option maxHeartbeats 4000000 in
theorem walk (c : Con) (e : Ent) (w : World) (hc : ConOk w c) (he : EntOk w e) : Calls Try.prog 5 #[c.agg, e.agg] w fun r w' => r = .returned (.bool true) ∧ Below w.heap.size w w' := by
  have HC := Lib.hid hc
  have HE := Lib.hid he
  have HK10 := Lib.hid (fun V (h : Below w.heap.size w V) => lent_any c V (hc.kept h))
  have HK25 := Lib.hid (fun V (h : Below w.heap.size w V) => copied_any e V (he.kept h))
  have HK27 := Lib.hid (fun V (h : Below w.heap.size w V) => rjoin_at c e V (hc.kept h) (he.kept h))
  have HGL := Lib.hid (show (joinG c e).length ≤ 5864062014634 by have := joinG_le c e; omega)
  have t1 : (joinV c e != joinV c e) = false := by simp
  have t2 : (decide (joinV c e = 0) != decide (joinV c e = 0)) = false := by simp
  clear hc he
  unfold RJoinsAs at HK27
  unfold Con.agg Ent.agg at *
  go_enter Try.func5, Try.ntmps5
  have HB0 := Lib.hid (((Below.refl w.heap.size w).alloc (Nat.le_refl _) (.cells #[.int .i64 c.num, .int .i64 c.kind, .int .i64 c.by', .int .i64 c.dl, .int .i64 c.to, .int .i64 c.want, .int .u64 c.price, .int .u64 c.reserve, .int .u64 c.step, .int .i64 c.of', .slice c.ea c.es.length c.ec] 25)).alloc (by simp) (.cells #[.int .i64 e.acc, .int .i64 e.item, .int .u64 e.coins, .int .u64 e.price, .slice e.wa e.ws.length e.wc] 44))
  go_wp2_with fail
  refine (HK10.out _ HB0.out).mono ?_
  rintro r0 w1 ⟨l, rfl, hld, hml, hb1⟩
  have R1 := Lib.hid (show Box w1 w.heap.size c from row_kept (alloc_old (alloc_at rfl)) hb1)
  have E1 := Lib.hid (show EBox w1 (w.heap.size + 1) e from row_kept (alloc_at (by simp)) hb1)
  have HBw1 := Lib.hid (HB0.out.trans (hb1.mono (by simp; omega)))
  have SZw1 := Lib.hid (show w.heap.size + 2 ≤ w1.heap.size from by have := hb1.size; simp at this; omega)
  have HML := Lib.hid hml
  have HLD := Lib.hid hld
  have HRL := Lib.hid hml.rn
  have HRW := Lib.hid hml.rnw
  clear hb1 hml
  obtain ⟨q0, q1, q2, q3, q4⟩ := E1.out.cellsA
  go_wp2_with fail
  refine (HK25.out _ (HBw1.out.alloc HBw1.out.size (.cells #[.int .i64 l.num, .int .i64 l.kind, .int .i64 l.by', .int .i64 l.dl, .int .i64 l.to, .int .i64 l.want, .int .u64 l.price, .int .u64 l.reserve, .int .u64 l.step, .int .i64 l.of', .slice l.ea l.es.length l.ec] 25))).mono ?_
  rintro r0 w2 ⟨f, rfl, hfd, hmf, hb⟩
  clear q0 q1 q2 q3 q4
  have HMF := Lib.hid hmf
  have HFD := Lib.hid hfd
  clear hmf
  have RL := Lib.hid (show Box w2 w1.heap.size l from row_kept (alloc_at rfl) hb)
  have NB := Lib.hid (show Below w1.heap.size w1 w2 from ((Below.refl _ _).alloc (Nat.le_refl _) (.cells #[.int .i64 l.num, .int .i64 l.kind, .int .i64 l.by', .int .i64 l.dl, .int .i64 l.to, .int .i64 l.want, .int .u64 l.price, .int .u64 l.reserve, .int .u64 l.step, .int .i64 l.of', .slice l.ea l.es.length l.ec] 25)).trans (hb.mono (by simp)))
  have SZw2 := Lib.hid (show w1.heap.size + 1 ≤ w2.heap.size from by have := hb.size; simpa using this)
  have HBw2 := Lib.hid (HBw1.out.trans (NB.out.mono HBw1.out.size))
  have R1 := Lib.hid (R1.out.kept NB.out)
  have E1 := Lib.hid (E1.out.kept NB.out)
  have HML := Lib.hid (HML.out.kept NB.out)
  clear NB hb
  have HK26 := Lib.hid (fun V (h : Below w2.heap.size w2 V) => join_at l c f e V (HML.out.ok.kept h) (HMF.out.ok.kept h) hld hfd)
  unfold JoinsAs Con.agg Ent.agg at HK26
  clear hld hfd
  obtain ⟨p0, p1, p2, p3, p4, p5, p6, p7, p8, p9, p10⟩ := RL.out.cellsA
  go_wp2_with fail
  refine (HK26.out _ ((Below.refl _ _).alloc (Nat.le_refl _) (.cells #[.int .i64 f.acc, .int .i64 f.item, .int .u64 f.coins, .int .u64 f.price, .slice f.wa f.ws.length f.wc] 44))).mono ?_
  rintro r0 w3 ⟨d, aa, ac, rfl, hd, hbd, ha, han, hb⟩
  clear p0 p1 p2 p3 p4 p5 p6 p7 p8 p9 p10
  have HW2 := Lib.hid (show Below w2.heap.size w2 w3 from ((Below.refl _ _).alloc (Nat.le_refl _) (.cells #[.int .i64 f.acc, .int .i64 f.item, .int .u64 f.coins, .int .u64 f.price, .slice f.wa f.ws.length f.wc] 44)).trans (hb.mono (by simp)))
  have RF := Lib.hid (show EBox w3 w2.heap.size f from row_kept (alloc_at rfl) hb)
  have NB := Lib.hid (show Below w2.heap.size w2 w3 from ((Below.refl _ _).alloc (Nat.le_refl _) (.cells #[.int .i64 f.acc, .int .i64 f.item, .int .u64 f.coins, .int .u64 f.price, .slice f.wa f.ws.length f.wc] 44)).trans (hb.mono (by simp)))
  have SZw3 := Lib.hid (show w2.heap.size + 1 ≤ w3.heap.size from by have := hb.size; simpa using this)
  have HBw3 := Lib.hid (HBw2.out.trans (NB.out.mono HBw2.out.size))
  have R1 := Lib.hid (R1.out.kept NB.out)
  have E1 := Lib.hid (E1.out.kept NB.out)
  have HML := Lib.hid (HML.out.kept NB.out)
  have RL := Lib.hid (RL.out.kept NB.out)
  have HMF := Lib.hid (HMF.out.kept NB.out)
  clear NB hb
  have HA := Lib.hid ha
  have HAN := Lib.hid han
  have HRA := Lib.hid ha.lt
  have HD1 := Lib.hid (And.intro hd hbd)
  clear ha han hd hbd
  obtain ⟨p0, p1, p2, p3, p4, p5, p6, p7, p8, p9, p10⟩ := RL.out.cellsA
  obtain ⟨q0, q1, q2, q3, q4⟩ := RF.out.cellsA
  go_wp2_with fail
  refine (HK26.out _ (HW2.out.alloc HW2.out.size (.cells #[.int .i64 d.num, .int .i64 d.kind, .int .i64 d.by', .int .i64 d.dl, .int .i64 d.to, .int .i64 d.want, .int .u64 d.price, .int .u64 d.reserve, .int .u64 d.step, .int .i64 d.of', .slice d.ea d.es.length d.ec] 25))).mono ?_
  rintro r0 w4 ⟨d2, ba, bc, rfl, hd, hbd, ha, han, hb⟩
  clear p0 p1 p2 p3 p4 p5 p6 p7 p8 p9 p10
  clear q0 q1 q2 q3 q4
  have RD := Lib.hid (show Box w4 w3.heap.size d from row_kept (alloc_at rfl) hb)
  have NB := Lib.hid (show Below w3.heap.size w3 w4 from ((Below.refl _ _).alloc (Nat.le_refl _) (.cells #[.int .i64 d.num, .int .i64 d.kind, .int .i64 d.by', .int .i64 d.dl, .int .i64 d.to, .int .i64 d.want, .int .u64 d.price, .int .u64 d.reserve, .int .u64 d.step, .int .i64 d.of', .slice d.ea d.es.length d.ec] 25)).trans (hb.mono (by simp)))
  have SZw4 := Lib.hid (show w3.heap.size + 1 ≤ w4.heap.size from by have := hb.size; simpa using this)
  have HBw4 := Lib.hid (HBw3.out.trans (NB.out.mono HBw3.out.size))
  have R1 := Lib.hid (R1.out.kept NB.out)
  have E1 := Lib.hid (E1.out.kept NB.out)
  have HML := Lib.hid (HML.out.kept NB.out)
  have RL := Lib.hid (RL.out.kept NB.out)
  have HMF := Lib.hid (HMF.out.kept NB.out)
  have RF := Lib.hid (RF.out.kept NB.out)
  have HA := Lib.hid (owns_below (B := 0) HA.out NB.out)
  clear NB hb
  have HB2 := Lib.hid ha
  have HRB := Lib.hid ha.lt
  have HD2 := Lib.hid (And.intro hd hbd)
  clear ha han hd hbd
  obtain ⟨p0, p1, p2, p3, p4, p5, p6, p7, p8, p9, p10⟩ := R1.out.cellsA
  obtain ⟨q0, q1, q2, q3, q4⟩ := E1.out.cellsA
  go_wp2_with fail
  refine (HK27.out _ (HBw4.out.alloc HBw4.out.size (.cells #[.int .i64 d2.num, .int .i64 d2.kind, .int .i64 d2.by', .int .i64 d2.dl, .int .i64 d2.to, .int .i64 d2.want, .int .u64 d2.price, .int .u64 d2.reserve, .int .u64 d2.step, .int .i64 d2.of', .slice d2.ea d2.es.length d2.ec] 25))).mono ?_
  rintro r0 w5 ⟨m, za, zc, rfl, hd, hbd, ha, hb⟩
  clear p0 p1 p2 p3 p4 p5 p6 p7 p8 p9 p10
  clear q0 q1 q2 q3 q4
  have RD2 := Lib.hid (show Box w5 w4.heap.size d2 from row_kept (alloc_at rfl) hb)
  have NB := Lib.hid (show Below w4.heap.size w4 w5 from ((Below.refl _ _).alloc (Nat.le_refl _) (.cells #[.int .i64 d2.num, .int .i64 d2.kind, .int .i64 d2.by', .int .i64 d2.dl, .int .i64 d2.to, .int .i64 d2.want, .int .u64 d2.price, .int .u64 d2.reserve, .int .u64 d2.step, .int .i64 d2.of', .slice d2.ea d2.es.length d2.ec] 25)).trans (hb.mono (by simp)))
  have SZw5 := Lib.hid (show w4.heap.size + 1 ≤ w5.heap.size from by have := hb.size; simpa using this)
  have HBw5 := Lib.hid (HBw4.out.trans (NB.out.mono HBw4.out.size))
  have R1 := Lib.hid (R1.out.kept NB.out)
  have E1 := Lib.hid (E1.out.kept NB.out)
  have HML := Lib.hid (HML.out.kept NB.out)
  have RL := Lib.hid (RL.out.kept NB.out)
  have HMF := Lib.hid (HMF.out.kept NB.out)
  have RF := Lib.hid (RF.out.kept NB.out)
  have HA := Lib.hid (owns_below (B := 0) HA.out NB.out)
  have RD := Lib.hid (RD.out.kept NB.out)
  have HB2 := Lib.hid (owns_below (B := 0) HB2.out NB.out)
  clear NB hb
  have HZ := Lib.hid ha
  have HRZ := Lib.hid ha.lt
  have HDM := Lib.hid (And.intro hd hbd)
  clear ha hd hbd
  have S1 := Lib.hid (fun V => same_true d m V ((HD1.out.2.newC 0 V).ok) ((HDM.out.2.newC 0 V).ok) (HD1.out.1.trans HDM.out.1.symm))
  have S2 := Lib.hid (fun V => same_true d2 m V ((HD2.out.2.newC 0 V).ok) ((HDM.out.2.newC 0 V).ok) (HD2.out.1.trans HDM.out.1.symm))
  unfold Con.agg at S1 S2
  obtain ⟨p0, p1, p2, p3, p4, p5, p6, p7, p8, p9, p10⟩ := RD.out.cellsA
  go_wp2_with (first
    | (go_at_call 13; refine (num_any _ _).mono ?_; rintro r0 w6 ⟨rfl, rfl⟩)
    | fail)
  refine (S1.out _).mono ?_
  rintro r0 w6 ⟨rfl, hb⟩
  clear p0 p1 p2 p3 p4 p5 p6 p7 p8 p9 p10
  have RM := Lib.hid (show Box w6 w5.heap.size m from row_kept (alloc_at rfl) hb)
  have NB := Lib.hid (show Below w5.heap.size w5 w6 from ((Below.refl _ _).alloc (Nat.le_refl _) (.cells #[.int .i64 m.num, .int .i64 m.kind, .int .i64 m.by', .int .i64 m.dl, .int .i64 m.to, .int .i64 m.want, .int .u64 m.price, .int .u64 m.reserve, .int .u64 m.step, .int .i64 m.of', .slice m.ea m.es.length m.ec] 25)).trans (hb.mono (by simp)))
  have SZw6 := Lib.hid (show w5.heap.size + 1 ≤ w6.heap.size from by have := hb.size; simpa using this)
  have HBw6 := Lib.hid (HBw5.out.trans (NB.out.mono HBw5.out.size))
  have R1 := Lib.hid (R1.out.kept NB.out)
  have E1 := Lib.hid (E1.out.kept NB.out)
  have HML := Lib.hid (HML.out.kept NB.out)
  have RL := Lib.hid (RL.out.kept NB.out)
  have HMF := Lib.hid (HMF.out.kept NB.out)
  have RF := Lib.hid (RF.out.kept NB.out)
  have HA := Lib.hid (owns_below (B := 0) HA.out NB.out)
  have RD := Lib.hid (RD.out.kept NB.out)
  have HB2 := Lib.hid (owns_below (B := 0) HB2.out NB.out)
  have RD2 := Lib.hid (RD2.out.kept NB.out)
  have HZ := Lib.hid (owns_below (B := 0) HZ.out NB.out)
  clear NB hb
  obtain ⟨p0, p1, p2, p3, p4, p5, p6, p7, p8, p9, p10⟩ := RD2.out.cells
  obtain ⟨q0, q1, q2, q3, q4, q5, q6, q7, q8, q9, q10⟩ := RM.out.cells
  go_wp2_with fail
  refine (S2.out _).mono ?_
  rintro r0 w7 ⟨rfl, hb⟩
  clear p0 p1 p2 p3 p4 p5 p6 p7 p8 p9 p10
  clear q0 q1 q2 q3 q4 q5 q6 q7 q8 q9 q10
  have NB := Lib.hid (show Below w6.heap.size w6 w7 from hb)
  have SZw7 := Lib.hid NB.out.size
  have HBw7 := Lib.hid (HBw6.out.trans (NB.out.mono HBw6.out.size))
  have R1 := Lib.hid (R1.out.kept NB.out)
  have E1 := Lib.hid (E1.out.kept NB.out)
  have HML := Lib.hid (HML.out.kept NB.out)
  have RL := Lib.hid (RL.out.kept NB.out)
  have HMF := Lib.hid (HMF.out.kept NB.out)
  have RF := Lib.hid (RF.out.kept NB.out)
  have HA := Lib.hid (owns_below (B := 0) HA.out NB.out)
  have RD := Lib.hid (RD.out.kept NB.out)
  have HB2 := Lib.hid (owns_below (B := 0) HB2.out NB.out)
  have RD2 := Lib.hid (RD2.out.kept NB.out)
  have HZ := Lib.hid (owns_below (B := 0) HZ.out NB.out)
  have RM := Lib.hid (RM.out.kept NB.out)
  clear NB hb
  go_wp2_with fail
  with_reducible refine (gifts_true aa za _ _ _ _ HGL.out (sl_owns HA.out) (sl_owns HZ.out)).mono ?_
  rintro r0 w8 ⟨rfl, hq⟩
  have hb := hq.below w7.heap.size
  clear hq
  have NB := Lib.hid (show Below w7.heap.size w7 w8 from hb)
  have SZw8 := Lib.hid NB.out.size
  have HBw8 := Lib.hid (HBw7.out.trans (NB.out.mono HBw7.out.size))
  have R1 := Lib.hid (R1.out.kept NB.out)
  have E1 := Lib.hid (E1.out.kept NB.out)
  have HML := Lib.hid (HML.out.kept NB.out)
  have RL := Lib.hid (RL.out.kept NB.out)
  have HMF := Lib.hid (HMF.out.kept NB.out)
  have RF := Lib.hid (RF.out.kept NB.out)
  have HA := Lib.hid (owns_below (B := 0) HA.out NB.out)
  have RD := Lib.hid (RD.out.kept NB.out)
  have HB2 := Lib.hid (owns_below (B := 0) HB2.out NB.out)
  have RD2 := Lib.hid (RD2.out.kept NB.out)
  have HZ := Lib.hid (owns_below (B := 0) HZ.out NB.out)
  have RM := Lib.hid (RM.out.kept NB.out)
  clear NB hb
  go_wp2_with fail
  with_reducible refine (gifts_true ba za _ _ _ _ HGL.out (sl_owns HB2.out) (sl_owns HZ.out)).mono ?_
  rintro r0 w9 ⟨rfl, hq⟩
  have hb := hq.below w8.heap.size
  clear hq
  have NB := Lib.hid (show Below w8.heap.size w8 w9 from hb)
  have SZw9 := Lib.hid NB.out.size
  have HBw9 := Lib.hid (HBw8.out.trans (NB.out.mono HBw8.out.size))
  have R1 := Lib.hid (R1.out.kept NB.out)
  have E1 := Lib.hid (E1.out.kept NB.out)
  have HML := Lib.hid (HML.out.kept NB.out)
  have RL := Lib.hid (RL.out.kept NB.out)
  have HMF := Lib.hid (HMF.out.kept NB.out)
  have RF := Lib.hid (RF.out.kept NB.out)
  have HA := Lib.hid (owns_below (B := 0) HA.out NB.out)
  have RD := Lib.hid (RD.out.kept NB.out)
  have HB2 := Lib.hid (owns_below (B := 0) HB2.out NB.out)
  have RD2 := Lib.hid (RD2.out.kept NB.out)
  have HZ := Lib.hid (owns_below (B := 0) HZ.out NB.out)
  have RM := Lib.hid (RM.out.kept NB.out)
  clear NB hb
  have K15 := Lib.hid (kept_true l c _ w9 HML.out (HC.out.kept HBw9.out) HLD.out)
  unfold Con.agg at K15
  obtain ⟨p0, p1, p2, p3, p4, p5, p6, p7, p8, p9, p10⟩ := RL.out.cells
  obtain ⟨q0, q1, q2, q3, q4, q5, q6, q7, q8, q9, q10⟩ := R1.out.cells
  go_wp2_with fail
  refine K15.out.mono ?_
  rintro r0 w10 ⟨rfl, hb⟩
  clear p0 p1 p2 p3 p4 p5 p6 p7 p8 p9 p10
  clear q0 q1 q2 q3 q4 q5 q6 q7 q8 q9 q10
  have NB := Lib.hid (show Below w9.heap.size w9 w10 from hb)
  have SZw10 := Lib.hid NB.out.size
  have HBw10 := Lib.hid (HBw9.out.trans (NB.out.mono HBw9.out.size))
  have R1 := Lib.hid (R1.out.kept NB.out)
  have E1 := Lib.hid (E1.out.kept NB.out)
  have HML := Lib.hid (HML.out.kept NB.out)
  have RL := Lib.hid (RL.out.kept NB.out)
  have HMF := Lib.hid (HMF.out.kept NB.out)
  have RF := Lib.hid (RF.out.kept NB.out)
  have HA := Lib.hid (owns_below (B := 0) HA.out NB.out)
  have RD := Lib.hid (RD.out.kept NB.out)
  have HB2 := Lib.hid (owns_below (B := 0) HB2.out NB.out)
  have RD2 := Lib.hid (RD2.out.kept NB.out)
  have HZ := Lib.hid (owns_below (B := 0) HZ.out NB.out)
  have RM := Lib.hid (RM.out.kept NB.out)
  clear NB hb
  have K28 := Lib.hid (entry_true f e w10 HMF.out.ok (HE.out.kept HBw10.out) HFD.out)
  unfold Ent.agg at K28
  obtain ⟨p0, p1, p2, p3, p4⟩ := RF.out.cells
  obtain ⟨q0, q1, q2, q3, q4⟩ := E1.out.cells
  go_wp2_with fail
  refine K28.out.mono ?_
  rintro r0 w11 ⟨rfl, hb⟩
  clear p0 p1 p2 p3 p4
  clear q0 q1 q2 q3 q4
  have NB := Lib.hid (show Below w10.heap.size w10 w11 from hb)
  have SZw11 := Lib.hid NB.out.size
  have HBw11 := Lib.hid (HBw10.out.trans (NB.out.mono HBw10.out.size))
  have R1 := Lib.hid (R1.out.kept NB.out)
  have E1 := Lib.hid (E1.out.kept NB.out)
  have HML := Lib.hid (HML.out.kept NB.out)
  have RL := Lib.hid (RL.out.kept NB.out)
  have HMF := Lib.hid (HMF.out.kept NB.out)
  have RF := Lib.hid (RF.out.kept NB.out)
  have HA := Lib.hid (owns_below (B := 0) HA.out NB.out)
  have RD := Lib.hid (RD.out.kept NB.out)
  have HB2 := Lib.hid (owns_below (B := 0) HB2.out NB.out)
  have RD2 := Lib.hid (RD2.out.kept NB.out)
  have HZ := Lib.hid (owns_below (B := 0) HZ.out NB.out)
  have RM := Lib.hid (RM.out.kept NB.out)
  clear NB hb
  have K29 := Lib.hid (marks_true f _ w11 HMF.out)
  unfold Ent.agg at K29
  obtain ⟨p0, p1, p2, p3, p4⟩ := RF.out.cells
  go_wp2_with fail
  refine K29.out.mono ?_
  rintro r0 w12 ⟨rfl, hb⟩
  clear p0 p1 p2 p3 p4
  have NB := Lib.hid (show Below w11.heap.size w11 w12 from hb)
  have SZw12 := Lib.hid NB.out.size
  have HBw12 := Lib.hid (HBw11.out.trans (NB.out.mono HBw11.out.size))
  have R1 := Lib.hid (R1.out.kept NB.out)
  have E1 := Lib.hid (E1.out.kept NB.out)
  have HML := Lib.hid (HML.out.kept NB.out)
  have RL := Lib.hid (RL.out.kept NB.out)
  have HMF := Lib.hid (HMF.out.kept NB.out)
  have RF := Lib.hid (RF.out.kept NB.out)
  have HA := Lib.hid (owns_below (B := 0) HA.out NB.out)
  have RD := Lib.hid (RD.out.kept NB.out)
  have HB2 := Lib.hid (owns_below (B := 0) HB2.out NB.out)
  have RD2 := Lib.hid (RD2.out.kept NB.out)
  have HZ := Lib.hid (owns_below (B := 0) HZ.out NB.out)
  have RM := Lib.hid (RM.out.kept NB.out)
  clear NB hb
  have K16 := Lib.hid (spoil_any (fun k => w.heap.size + 1 < k ∧ k < w1.heap.size) l w12 HML.out.ok.mx (HML.out.es' (fun k hk => by have := HRL.out k hk; simp only [Rn, World.size_alloc] at this; omega)) (HML.out.ws (fun e he k hk => by have := HRW.out e he k hk; simp only [Rn, World.size_alloc] at this; omega)))
  unfold Con.agg at K16
  obtain ⟨p0, p1, p2, p3, p4, p5, p6, p7, p8, p9, p10⟩ := RL.out.cells
  go_wp2_with fail
  refine K16.out.mono ?_
  rintro r0 w13 ⟨rfl, ho⟩
  clear p0 p1 p2 p3 p4 p5 p6 p7 p8 p9 p10
  have sw1 := SZw1.out
  have sw2 := SZw2.out
  have sw3 := SZw3.out
  have sw4 := SZw4.out
  have sw5 := SZw5.out
  have sw6 := SZw6.out
  have RD := Lib.hid (RD.out.only ho (by omega))
  have RD2 := Lib.hid (RD2.out.only ho (by omega))
  have RM := Lib.hid (RM.out.only ho (by omega))
  have HA := Lib.hid (ho.owns HA.out (fun k hk => by have := HRA.out k hk; simp only [World.size_alloc] at this; omega))
  have HB2 := Lib.hid (ho.owns HB2.out (fun k hk => by have := HRB.out k hk; simp only [World.size_alloc] at this; omega))
  have HZ := Lib.hid (ho.owns HZ.out (fun k hk => by have := HRZ.out k hk; simp only [World.size_alloc] at this; omega))
  have HBw13 := Lib.hid (HBw12.out.trans (ho.below HBw12.out.size (fun k hk => by omega)))
  clear ho
  clear sw1 sw2 sw3 sw4 sw5 sw6
  have K17 := Lib.hid (spoil_any (fun _ => False) d w13 (by rw [HD1.out.2.2.2]; exact Nat.zero_le _) (.inl ⟨HD1.out.2.1, by rw [HD1.out.2.2.2]; rfl, HD1.out.2.2.1⟩) (fun e he => by rw [HD1.out.2.2.2] at he; cases he))
  unfold Con.agg at K17
  obtain ⟨p0, p1, p2, p3, p4, p5, p6, p7, p8, p9, p10⟩ := RD.out.cells
  go_wp2_with fail
  refine K17.out.mono ?_
  rintro r0 w14 ⟨rfl, ho⟩
  clear p0 p1 p2 p3 p4 p5 p6 p7 p8 p9 p10
  have sw1 := SZw1.out
  have sw2 := SZw2.out
  have sw3 := SZw3.out
  have sw4 := SZw4.out
  have sw5 := SZw5.out
  have sw6 := SZw6.out
  have RD2 := Lib.hid (RD2.out.only ho (fun h => h))
  have RM := Lib.hid (RM.out.only ho (fun h => h))
  have HA := Lib.hid (ho.owns HA.out (fun _ _ h => h))
  have HB2 := Lib.hid (ho.owns HB2.out (fun _ _ h => h))
  have HZ := Lib.hid (ho.owns HZ.out (fun _ _ h => h))
  have HBw14 := Lib.hid (HBw13.out.trans (ho.below HBw13.out.size (fun _ h => h.elim)))
  clear ho
  clear sw1 sw2 sw3 sw4 sw5 sw6
  have K24 := Lib.hid (spoilG_any (fun k => w2.heap.size < k ∧ k < w3.heap.size) aa (joinG c e).length w14 HGL.out (fun h => (HAN.out h).1) (GS.of_owns HA.out (fun k hk => by have := HRA.out k hk; simp only [World.size_alloc] at this; omega)))
  go_wp2_with fail
  with_reducible refine K24.out.mono ?_
  rintro r0 w15 ⟨rfl, ho⟩
  have sw1 := SZw1.out
  have sw2 := SZw2.out
  have sw3 := SZw3.out
  have sw4 := SZw4.out
  have sw5 := SZw5.out
  have sw6 := SZw6.out
  have RD2 := Lib.hid (RD2.out.only ho (by omega))
  have RM := Lib.hid (RM.out.only ho (by omega))
  have HB2 := Lib.hid (ho.owns HB2.out (fun k hk => by have := HRB.out k hk; simp only [World.size_alloc] at this; omega))
  have HZ := Lib.hid (ho.owns HZ.out (fun k hk => by have := HRZ.out k hk; simp only [World.size_alloc] at this; omega))
  have HBw15 := Lib.hid (HBw14.out.trans (ho.below HBw14.out.size (fun k hk => by omega)))
  clear ho
  clear sw1 sw2 sw3 sw4 sw5 sw6
  obtain ⟨p0, p1, p2, p3, p4, p5, p6, p7, p8, p9, p10⟩ := RD2.out.cells
  obtain ⟨q0, q1, q2, q3, q4, q5, q6, q7, q8, q9, q10⟩ := RM.out.cells
  go_wp2_with fail
  refine (S2.out _).mono ?_
  rintro r0 w16 ⟨rfl, hb⟩
  clear p0 p1 p2 p3 p4 p5 p6 p7 p8 p9 p10
  clear q0 q1 q2 q3 q4 q5 q6 q7 q8 q9 q10
  have NB := Lib.hid (show Below w15.heap.size w15 w16 from hb)
  have SZw16 := Lib.hid NB.out.size
  have HBw16 := Lib.hid (HBw15.out.trans (NB.out.mono HBw15.out.size))
  have HB2 := Lib.hid (owns_below (B := 0) HB2.out NB.out)
  have HZ := Lib.hid (owns_below (B := 0) HZ.out NB.out)
  clear NB hb
  go_wp2_with fail
  with_reducible refine (gifts_true ba za _ _ _ _ HGL.out (sl_owns HB2.out) (sl_owns HZ.out)).mono ?_
  rintro r0 w17 ⟨rfl, hq⟩
  have hb := hq.below w16.heap.size
  clear hq
  have NB := Lib.hid (show Below w16.heap.size w16 w17 from hb)
  have SZw17 := Lib.hid NB.out.size
  have HBw17 := Lib.hid (HBw16.out.trans (NB.out.mono HBw16.out.size))
  have HB2 := Lib.hid (owns_below (B := 0) HB2.out NB.out)
  have HZ := Lib.hid (owns_below (B := 0) HZ.out NB.out)
  clear NB hb
  go_wp2
  go_ret
  exact ⟨rfl, HBw17.out⟩
theorem own : ownKnob Try.prog.godebug = none := by kernel_rfl
theorem laidOut : laidOutB Try.prog = true := by kernel_rfl
set_option maxRecDepth 100000 in
theorem lifted (os : Os) (started : os.Started) (H : Type) (enc : TypeId × Value → H) :
    ReturnsInHanded {} Try.checked os 5 .any (Rows.tradeJoinsSpec.pre6 enc Try.prog Try.f5 Rows.tradeJoinsRow.domain false) (Rows.tradeJoinsSpec.post enc Try.prog Try.f5 false true false false) := by
  refine returnsInHanded_of_change_sized (C := Try.checked) own started (by kernel_rfl) Try.func5
    (ChangeSpec.witness6 (enc := enc) (C := Try.checked) false ⟨#[], #[.agg #[.int .i64 0, .int .i64 0, .int .i64 0, .int .i64 0, .int .i64 0, .int .i64 0, .int .u64 0, .int .u64 0, .int .u64 0, .int .i64 0, .slice none 0 0], .agg #[.int .i64 0, .int .i64 0, .int .u64 0, .int .u64 0, .slice none 0 0]], []⟩ 8 (by kernel_rfl) (by kernel_rfl) (by kernel_rfl) (by kernel_rfl)) ?_
  intro W base args ds gs before hval0 hW hcnd hsz0 _
  have hsz : (DataW.weightsEach Try.prog (Try.f5.params.toList ++ Rows.tradeJoinsSpec.plain.varTypes Try.prog) (ds ++ gs)).all (· ≤ reachBytes) = true := hsz0
  clear hsz0
  have hval : ∀ (j : Nat) t v, Try.f5.params[j]? = some t → args[j]? = some v → Value.okWide Try.prog W .any base t v := hval0
  have hW' := hW
  obtain ⟨p, q, hA0, hV, rfl, hfz, hnd⟩ := hW
  have hA : DataW.TrodAll enc Try.prog W 0 (fun _ => true) true Try.f5.params.toList args.toList ds p := hA0
  rw [Try.params5] at hA hval hsz
  obtain ⟨v0, vs0, d0, ds0, p0, q0, hargs, rfl, rfl, h0, r0⟩ := trodAll_cons hA
  obtain ⟨v1, vs1, d1, ds1, p1, q1, rfl, rfl, rfl, h1, r1⟩ := trodAll_cons r0
  obtain ⟨rfl, rfl, rfl⟩ := trodAll_nil r1
  obtain rfl : args = #[v0, v1] := by cases args; simp_all
  obtain ⟨rfl, rfl⟩ := trodVars_none hV
  have k0 := h0
  have lt0 : ∀ x ∈ p0, x.block < W.heap.size := by obtain ⟨m, hm⟩ := k0; exact DataW.trod_lt m _ _ _ hm
  obtain ⟨c0, rfl, n0⟩ := open_con (hval 0 25 v0 rfl rfl) h0 hsz (j := 0) rfl rfl
  have k1 := h1
  have lt1 : ∀ x ∈ p1, x.block < W.heap.size := by obtain ⟨m, hm⟩ := k1; exact DataW.trod_lt m _ _ _ hm
  obtain ⟨c1, rfl, n1⟩ := open_ent (hval 1 44 v1 rfl rfl) h1 hsz (j := 1) rfl rfl
  clear hA0 hval0
  refine (walk c0 c1 W n0 n1).mono fun e W' ⟨he, bel⟩ => ?_
  subst he
  exact ⟨_, rfl, _, _, _, [], _, [], hW', trodAll_mk1 (shut_bool Try.underlying4 _), (trodAll_cons_mk (Below.trod laidOut (by kernel_rfl) (of_decide_eq_true (by kernel_rfl)) k0 bel lt0) (trodAll_cons_mk (Below.trod laidOut (by kernel_rfl) (of_decide_eq_true (by kernel_rfl)) k1 bel lt1) trodAll_mk0)), rfl, bel.frame _, fun h => by cases h⟩
theorem over : Rows.tradeJoinsRow.holds Try.pinned (OpenSpec.ofChange Rows.tradeJoinsSpec) :=
  OpenClaim.holds_of_wide 5 Try.f5 rfl rfl rfl rfl rfl rfl rfl ⟨rfl, rfl, rfl, rfl, rfl⟩ rfl rfl rfl rfl rfl (by kernel_rfl) Try.func5 (by kernel_rfl)
    (of_decide_eq_true (by kernel_rfl)) (by unfold Func.isWrapper; first | (rw [if_pos (by decide +kernel)]; kernel_rfl) | (rw [if_neg (by decide +kernel)]; exact ⟨rfl, rfl⟩))
    (fun os started H enc _ => lifted os started H enc)
theorem proved : Rows.TradeJoinsSaid := over
#print axioms proved
end Go.Proofs.Ytiafhgcnjgpeaaa.lawTradeJoins
