/-
  Of every contract its mirror is the document's, or the refusal is; what was handed in stays; written over, it does not show in what was told before.
  No condition beyond the statement's own.
-/
import Derived.Test.YtiafhgcnjgpeaaaYb
namespace Go.Proofs.Ytiafhgcnjgpeaaa.lawTradeMirrors
open Go.RowKit Go.K Go.ChangeShapes Go.WideShapes Go.ChangeAt
set_option linter.unusedVariables false
set_option linter.unusedSimpArgs false
set_option maxRecDepth 100000 in
set_option maxHeartbeats 8000000 in
theorem walk (c : Con) (w : World) (hc : ConOk w c) : Calls Try.prog 3 #[c.agg] w fun r w' => r = .returned (.bool true) ∧ Below w.heap.size w w' := by
  have HC := Lib.hid hc
  have HK10 := Lib.hid (fun V (h : Below w.heap.size w V) => lent_any c V (hc.kept h))
  have HK12 := Lib.hid (fun V (h : Below w.heap.size w V) => rmirror_any c V (hc.kept h))
  clear hc
  unfold Con.agg at *
  go_enter Try.func3, Try.ntmps3
  have HB0 := Lib.hid ((Below.refl w.heap.size w).alloc (Nat.le_refl _) (.cells #[.int .i64 c.num, .int .i64 c.kind, .int .i64 c.by', .int .i64 c.dl, .int .i64 c.to, .int .i64 c.want, .int .u64 c.price, .int .u64 c.reserve, .int .u64 c.step, .int .i64 c.of', .slice c.ea c.es.length c.ec] 25))
  go_wp2_with fail
  refine (HK10.out _ HB0.out).mono ?_
  rintro e w1 ⟨l, rfl, hld, hml, hb1⟩
  have R1 := Lib.hid (show Box w1 w.heap.size c from row_kept (alloc_at rfl) hb1)
  have HB1 := Lib.hid (HB0.out.trans (hb1.mono (by simp)))
  have HML := Lib.hid hml
  have HLD := Lib.hid hld
  have HRL := Lib.hid hml.rn
  have HRW := Lib.hid hml.rnw
  have S1 := Lib.hid (show w.heap.size + 1 ≤ w1.heap.size from by have := hb1.size; simpa using this)
  have HK11 := Lib.hid (fun V (h : Below w1.heap.size w1 V) => mirror_any l V (hml.ok.kept h))
  rw [termsV_d hld, mirD_d hld] at HK11
  clear hml hld hb1
  unfold Con.agg at HK11
  have HA1 := Lib.hid ((Below.refl w1.heap.size w1).alloc (Nat.le_refl _) (.cells #[.int .i64 l.num, .int .i64 l.kind, .int .i64 l.by', .int .i64 l.dl, .int .i64 l.to, .int .i64 l.want, .int .u64 l.price, .int .u64 l.reserve, .int .u64 l.step, .int .i64 l.of', .slice l.ea l.es.length l.ec] 25))
  go_wp2_with fail
  refine (HK11.out _ HA1.out).mono ?_
  rintro e w2 ⟨m, rfl, hmd, hnm, hb2⟩
  have RL := Lib.hid (show Box w2 w1.heap.size l from row_kept (alloc_at rfl) hb2)
  have R1 := Lib.hid ((R1.out.alloc (.cells #[.int .i64 l.num, .int .i64 l.kind, .int .i64 l.by', .int .i64 l.dl, .int .i64 l.to, .int .i64 l.want, .int .u64 l.price, .int .u64 l.reserve, .int .u64 l.step, .int .i64 l.of', .slice l.ea l.es.length l.ec] 25)).kept hb2)
  have HB2 := Lib.hid ((HB1.out.alloc HB1.out.size (.cells #[.int .i64 l.num, .int .i64 l.kind, .int .i64 l.by', .int .i64 l.dl, .int .i64 l.to, .int .i64 l.want, .int .u64 l.price, .int .u64 l.reserve, .int .u64 l.step, .int .i64 l.of', .slice l.ea l.es.length l.ec] 25)).trans (hb2.mono (HB1.out.alloc HB1.out.size _).size))
  have HML := Lib.hid ((HML.out.kept ((Below.refl _ _).alloc (Nat.le_refl _) (.cells #[.int .i64 l.num, .int .i64 l.kind, .int .i64 l.by', .int .i64 l.dl, .int .i64 l.to, .int .i64 l.want, .int .u64 l.price, .int .u64 l.reserve, .int .u64 l.step, .int .i64 l.of', .slice l.ea l.es.length l.ec] 25))).kept hb2)
  have HNM := Lib.hid hnm
  have HMD := Lib.hid hmd
  have HRM := Lib.hid hnm.rn
  have S2 := Lib.hid (show w1.heap.size + 1 ≤ w2.heap.size from by have := hb2.size; simpa using this)
  have HA2 := Lib.hid (((Below.refl w1.heap.size w1).alloc (Nat.le_refl _) (.cells #[.int .i64 l.num, .int .i64 l.kind, .int .i64 l.by', .int .i64 l.dl, .int .i64 l.to, .int .i64 l.want, .int .u64 l.price, .int .u64 l.reserve, .int .u64 l.step, .int .i64 l.of', .slice l.ea l.es.length l.ec] 25)).trans (hb2.mono (by simp)))
  clear hb2 hnm hmd HA1
  obtain ⟨p0, p1, p2, p3, p4, p5, p6, p7, p8, p9, p10⟩ := RL.out.cellsA
  go_wp2_with fail
  refine (HK11.out _ (HA2.out.alloc HA2.out.size _)).mono ?_
  rintro e w3 ⟨m2, rfl, hmd, hnm, hb3⟩
  have RM := Lib.hid (show Box w3 w2.heap.size m from row_kept (alloc_at rfl) hb3)
  have RL := Lib.hid ((RL.out.alloc (.cells #[.int .i64 m.num, .int .i64 m.kind, .int .i64 m.by', .int .i64 m.dl, .int .i64 m.to, .int .i64 m.want, .int .u64 m.price, .int .u64 m.reserve, .int .u64 m.step, .int .i64 m.of', .slice m.ea m.es.length m.ec] 25)).kept hb3)
  have R1 := Lib.hid ((R1.out.alloc (.cells #[.int .i64 m.num, .int .i64 m.kind, .int .i64 m.by', .int .i64 m.dl, .int .i64 m.to, .int .i64 m.want, .int .u64 m.price, .int .u64 m.reserve, .int .u64 m.step, .int .i64 m.of', .slice m.ea m.es.length m.ec] 25)).kept hb3)
  have HB3 := Lib.hid ((HB2.out.alloc HB2.out.size (.cells #[.int .i64 m.num, .int .i64 m.kind, .int .i64 m.by', .int .i64 m.dl, .int .i64 m.to, .int .i64 m.want, .int .u64 m.price, .int .u64 m.reserve, .int .u64 m.step, .int .i64 m.of', .slice m.ea m.es.length m.ec] 25)).trans (hb3.mono (HB2.out.alloc HB2.out.size _).size))
  have HML := Lib.hid ((HML.out.kept ((Below.refl _ _).alloc (Nat.le_refl _) (.cells #[.int .i64 m.num, .int .i64 m.kind, .int .i64 m.by', .int .i64 m.dl, .int .i64 m.to, .int .i64 m.want, .int .u64 m.price, .int .u64 m.reserve, .int .u64 m.step, .int .i64 m.of', .slice m.ea m.es.length m.ec] 25))).kept hb3)
  have HNM := Lib.hid ((HNM.out.kept ((Below.refl _ _).alloc (Nat.le_refl _) (.cells #[.int .i64 m.num, .int .i64 m.kind, .int .i64 m.by', .int .i64 m.dl, .int .i64 m.to, .int .i64 m.want, .int .u64 m.price, .int .u64 m.reserve, .int .u64 m.step, .int .i64 m.of', .slice m.ea m.es.length m.ec] 25))).kept hb3)
  have HN2 := Lib.hid hnm
  have HD2 := Lib.hid hmd
  have HR2 := Lib.hid hnm.rn
  have S3 := Lib.hid (show w2.heap.size + 1 ≤ w3.heap.size from by have := hb3.size; simpa using this)
  clear hb3 hnm hmd HA2
  clear p0 p1 p2 p3 p4 p5 p6 p7 p8 p9 p10
  obtain ⟨p0, p1, p2, p3, p4, p5, p6, p7, p8, p9, p10⟩ := R1.out.cellsA
  go_wp2_with fail
  refine (HK12.out _ (HB3.out.alloc HB3.out.size _)).mono ?_
  rintro e w4 ⟨z, rfl, hmd, hnm, hb4⟩
  have R2 := Lib.hid (show Box w4 w3.heap.size m2 from row_kept (alloc_at rfl) hb4)
  have RM := Lib.hid ((RM.out.alloc (.cells #[.int .i64 m2.num, .int .i64 m2.kind, .int .i64 m2.by', .int .i64 m2.dl, .int .i64 m2.to, .int .i64 m2.want, .int .u64 m2.price, .int .u64 m2.reserve, .int .u64 m2.step, .int .i64 m2.of', .slice m2.ea m2.es.length m2.ec] 25)).kept hb4)
  have RL := Lib.hid ((RL.out.alloc (.cells #[.int .i64 m2.num, .int .i64 m2.kind, .int .i64 m2.by', .int .i64 m2.dl, .int .i64 m2.to, .int .i64 m2.want, .int .u64 m2.price, .int .u64 m2.reserve, .int .u64 m2.step, .int .i64 m2.of', .slice m2.ea m2.es.length m2.ec] 25)).kept hb4)
  have R1 := Lib.hid ((R1.out.alloc (.cells #[.int .i64 m2.num, .int .i64 m2.kind, .int .i64 m2.by', .int .i64 m2.dl, .int .i64 m2.to, .int .i64 m2.want, .int .u64 m2.price, .int .u64 m2.reserve, .int .u64 m2.step, .int .i64 m2.of', .slice m2.ea m2.es.length m2.ec] 25)).kept hb4)
  have HB4 := Lib.hid ((HB3.out.alloc HB3.out.size (.cells #[.int .i64 m2.num, .int .i64 m2.kind, .int .i64 m2.by', .int .i64 m2.dl, .int .i64 m2.to, .int .i64 m2.want, .int .u64 m2.price, .int .u64 m2.reserve, .int .u64 m2.step, .int .i64 m2.of', .slice m2.ea m2.es.length m2.ec] 25)).trans (hb4.mono (HB3.out.alloc HB3.out.size _).size))
  have HML := Lib.hid ((HML.out.kept ((Below.refl _ _).alloc (Nat.le_refl _) (.cells #[.int .i64 m2.num, .int .i64 m2.kind, .int .i64 m2.by', .int .i64 m2.dl, .int .i64 m2.to, .int .i64 m2.want, .int .u64 m2.price, .int .u64 m2.reserve, .int .u64 m2.step, .int .i64 m2.of', .slice m2.ea m2.es.length m2.ec] 25))).kept hb4)
  have HNM := Lib.hid ((HNM.out.kept ((Below.refl _ _).alloc (Nat.le_refl _) (.cells #[.int .i64 m2.num, .int .i64 m2.kind, .int .i64 m2.by', .int .i64 m2.dl, .int .i64 m2.to, .int .i64 m2.want, .int .u64 m2.price, .int .u64 m2.reserve, .int .u64 m2.step, .int .i64 m2.of', .slice m2.ea m2.es.length m2.ec] 25))).kept hb4)
  have HN2 := Lib.hid ((HN2.out.kept ((Below.refl _ _).alloc (Nat.le_refl _) (.cells #[.int .i64 m2.num, .int .i64 m2.kind, .int .i64 m2.by', .int .i64 m2.dl, .int .i64 m2.to, .int .i64 m2.want, .int .u64 m2.price, .int .u64 m2.reserve, .int .u64 m2.step, .int .i64 m2.of', .slice m2.ea m2.es.length m2.ec] 25))).kept hb4)
  have HNZ := Lib.hid hnm
  have HDZ := Lib.hid hmd
  have HRZ := Lib.hid hnm.rn
  have S4 := Lib.hid (show w3.heap.size + 1 ≤ w4.heap.size from by have := hb4.size; simpa using this)
  clear hb4 hnm hmd
  clear p0 p1 p2 p3 p4 p5 p6 p7 p8 p9 p10
  have HT := Lib.hid (show (termsV c != termsV c) = false by simp)
  have hz : (termsV c != termsV c) = false := HT.out
  -- all in the world behind the last variable
  have HA := Lib.hid (show Below w4.heap.size w4 (w4.alloc (.cells #[.int .i64 z.num, .int .i64 z.kind, .int .i64 z.by', .int .i64 z.dl, .int .i64 z.to, .int .i64 z.want, .int .u64 z.price, .int .u64 z.reserve, .int .u64 z.step, .int .i64 z.of', .slice z.ea z.es.length z.ec] 25)) from (Below.refl w4.heap.size w4).alloc (Nat.le_refl _) _)
  have K1 := Lib.hid (fun V (h : Below (w4.alloc (.cells #[.int .i64 z.num, .int .i64 z.kind, .int .i64 z.by', .int .i64 z.dl, .int .i64 z.to, .int .i64 z.want, .int .u64 z.price, .int .u64 z.reserve, .int .u64 z.step, .int .i64 z.of', .slice z.ea z.es.length z.ec] 25)).heap.size (w4.alloc (.cells #[.int .i64 z.num, .int .i64 z.kind, .int .i64 z.by', .int .i64 z.dl, .int .i64 z.to, .int .i64 z.want, .int .u64 z.price, .int .u64 z.reserve, .int .u64 z.step, .int .i64 z.of', .slice z.ea z.es.length z.ec] 25)) V) => same_true m z V ((HNM.out.kept HA.out).kept h).ok ((HNZ.out.kept HA.out).kept h).ok (HMD.out.trans HDZ.out.symm))
  have K2 := Lib.hid (fun V (h : Below (w4.alloc (.cells #[.int .i64 z.num, .int .i64 z.kind, .int .i64 z.by', .int .i64 z.dl, .int .i64 z.to, .int .i64 z.want, .int .u64 z.price, .int .u64 z.reserve, .int .u64 z.step, .int .i64 z.of', .slice z.ea z.es.length z.ec] 25)).heap.size (w4.alloc (.cells #[.int .i64 z.num, .int .i64 z.kind, .int .i64 z.by', .int .i64 z.dl, .int .i64 z.to, .int .i64 z.want, .int .u64 z.price, .int .u64 z.reserve, .int .u64 z.step, .int .i64 z.of', .slice z.ea z.es.length z.ec] 25)) V) => same_true m2 z V ((HN2.out.kept HA.out).kept h).ok ((HNZ.out.kept HA.out).kept h).ok (HD2.out.trans HDZ.out.symm))
  have K3 := Lib.hid (fun V (h : Below (w4.alloc (.cells #[.int .i64 z.num, .int .i64 z.kind, .int .i64 z.by', .int .i64 z.dl, .int .i64 z.to, .int .i64 z.want, .int .u64 z.price, .int .u64 z.reserve, .int .u64 z.step, .int .i64 z.of', .slice z.ea z.es.length z.ec] 25)).heap.size (w4.alloc (.cells #[.int .i64 z.num, .int .i64 z.kind, .int .i64 z.by', .int .i64 z.dl, .int .i64 z.to, .int .i64 z.want, .int .u64 z.price, .int .u64 z.reserve, .int .u64 z.step, .int .i64 z.of', .slice z.ea z.es.length z.ec] 25)) V) => kept_true l c _ V ((HML.out.kept HA.out).kept h) ((HC.out.kept ((HB4.out.alloc HB4.out.size _))).kept h) HLD.out)
  unfold Con.agg at K1 K2 K3
  obtain ⟨p0, p1, p2, p3, p4, p5, p6, p7, p8, p9, p10⟩ := RM.out.cellsA
  go_wp2_with (first
    | (go_at_call 13; refine (num_any _ _).mono ?_; rintro e w5 ⟨rfl, rfl⟩)
    | fail)
  refine (K1.out _ (Below.refl _ _)).mono ?_
  rintro e w5 ⟨rfl, hb5⟩
  have HB5 := Lib.hid ((HA.out.mono (Nat.le_refl _)).trans (hb5.mono HA.out.size))
  have HC5 := Lib.hid hb5
  have RZ := Lib.hid (show Box w5 w4.heap.size z from row_kept (alloc_at rfl) hb5)
  have R2 := Lib.hid ((R2.out.alloc (.cells #[.int .i64 z.num, .int .i64 z.kind, .int .i64 z.by', .int .i64 z.dl, .int .i64 z.to, .int .i64 z.want, .int .u64 z.price, .int .u64 z.reserve, .int .u64 z.step, .int .i64 z.of', .slice z.ea z.es.length z.ec] 25)).kept hb5)
  have RM := Lib.hid ((RM.out.alloc (.cells #[.int .i64 z.num, .int .i64 z.kind, .int .i64 z.by', .int .i64 z.dl, .int .i64 z.to, .int .i64 z.want, .int .u64 z.price, .int .u64 z.reserve, .int .u64 z.step, .int .i64 z.of', .slice z.ea z.es.length z.ec] 25)).kept hb5)
  have RL := Lib.hid ((RL.out.alloc (.cells #[.int .i64 z.num, .int .i64 z.kind, .int .i64 z.by', .int .i64 z.dl, .int .i64 z.to, .int .i64 z.want, .int .u64 z.price, .int .u64 z.reserve, .int .u64 z.step, .int .i64 z.of', .slice z.ea z.es.length z.ec] 25)).kept hb5)
  have R1 := Lib.hid ((R1.out.alloc (.cells #[.int .i64 z.num, .int .i64 z.kind, .int .i64 z.by', .int .i64 z.dl, .int .i64 z.to, .int .i64 z.want, .int .u64 z.price, .int .u64 z.reserve, .int .u64 z.step, .int .i64 z.of', .slice z.ea z.es.length z.ec] 25)).kept hb5)
  clear hb5
  clear p0 p1 p2 p3 p4 p5 p6 p7 p8 p9 p10
  obtain ⟨p0, p1, p2, p3, p4, p5, p6, p7, p8, p9, p10⟩ := R2.out.cells
  obtain ⟨q0, q1, q2, q3, q4, q5, q6, q7, q8, q9, q10⟩ := RZ.out.cells
  go_wp2_with fail
  refine (K2.out _ HC5.out).mono ?_
  rintro e w6 ⟨rfl, hb6⟩
  have HB6 := Lib.hid (HB5.out.trans (hb6.mono HB5.out.size))
  have HC6 := Lib.hid (HC5.out.trans (hb6.mono HC5.out.size))
  have RZ := Lib.hid (RZ.out.kept hb6)
  have R2 := Lib.hid (R2.out.kept hb6)
  have RM := Lib.hid (RM.out.kept hb6)
  have RL := Lib.hid (RL.out.kept hb6)
  have R1 := Lib.hid (R1.out.kept hb6)
  clear hb6
  clear p0 p1 p2 p3 p4 p5 p6 p7 p8 p9 p10
  clear q0 q1 q2 q3 q4 q5 q6 q7 q8 q9 q10
  obtain ⟨p0, p1, p2, p3, p4, p5, p6, p7, p8, p9, p10⟩ := RL.out.cells
  obtain ⟨q0, q1, q2, q3, q4, q5, q6, q7, q8, q9, q10⟩ := R1.out.cells
  go_wp2_with fail
  refine (K3.out _ HC6.out).mono ?_
  rintro e w7 ⟨rfl, hb7⟩
  have HB7 := Lib.hid (HB6.out.trans (hb7.mono HB6.out.size))
  have RZ := Lib.hid (RZ.out.kept hb7)
  have R2 := Lib.hid (R2.out.kept hb7)
  have RM := Lib.hid (RM.out.kept hb7)
  have RL := Lib.hid (RL.out.kept hb7)
  clear hb7
  clear p0 p1 p2 p3 p4 p5 p6 p7 p8 p9 p10
  clear q0 q1 q2 q3 q4 q5 q6 q7 q8 q9 q10
  obtain ⟨p0, p1, p2, p3, p4, p5, p6, p7, p8, p9, p10⟩ := RL.out.cells
  have HML := Lib.hid (HML.out.kept HB7.out)
  have HNM := Lib.hid (HNM.out.kept HB7.out)
  have HN2 := Lib.hid (HN2.out.kept HB7.out)
  have HNZ := Lib.hid (HNZ.out.kept HB7.out)
  have K4 := Lib.hid (spoil_any (fun k => w.heap.size < k ∧ k < w1.heap.size) l w7 HML.out.mx (HML.out.es' (fun k hk => by have := HRL.out k hk; simp only [Rn, World.size_alloc] at this; omega)) (HML.out.ws (fun e he k hk => by have := HRW.out e he k hk; simp only [Rn, World.size_alloc] at this; omega)))
  unfold Con.agg at K4
  go_wp2_with fail
  refine K4.out.mono ?_
  rintro e w8 ⟨rfl, ho8⟩
  have hs1 := S1.out
  have hs2 := S2.out
  have hs3 := S3.out
  have hs4 := S4.out
  have RZ := Lib.hid (RZ.out.only ho8 (by omega))
  have R2 := Lib.hid (R2.out.only ho8 (by omega))
  have RM := Lib.hid (RM.out.only ho8 (by omega))
  have HNM := Lib.hid (HNM.out.only ho8 (fun k hk => by have := HRM.out k hk; simp only [Rn, World.size_alloc] at this; omega))
  have HN2 := Lib.hid (HN2.out.only ho8 (fun k hk => by have := HR2.out k hk; simp only [Rn, World.size_alloc] at this; omega))
  have HNZ := Lib.hid (HNZ.out.only ho8 (fun k hk => by have := HRZ.out k hk; simp only [Rn, World.size_alloc] at this; omega))
  have K5 := Lib.hid (spoil_any (fun k => w1.heap.size < k ∧ k < w2.heap.size) m w8 (Nat.le_trans HNM.out.mx (by decide)) (HNM.out.es (fun k hk => by have := HRM.out k hk; simp only [Rn, World.size_alloc] at this; omega)) HNM.out.ws)
  have HB8 := Lib.hid ((HB4.out.trans (HB7.out.mono HB4.out.size)).trans (ho8.below (HB4.out.trans (HB7.out.mono HB4.out.size)).size (fun k hk => by omega)))
  clear ho8 hs1 hs2 hs3 hs4
  unfold Con.agg at K5
  clear p0 p1 p2 p3 p4 p5 p6 p7 p8 p9 p10
  obtain ⟨p0, p1, p2, p3, p4, p5, p6, p7, p8, p9, p10⟩ := RM.out.cells
  go_wp2_with fail
  refine K5.out.mono ?_
  rintro e w9 ⟨rfl, ho9⟩
  have hs1 := S1.out
  have hs2 := S2.out
  have hs3 := S3.out
  have hs4 := S4.out
  have RZ := Lib.hid (RZ.out.only ho9 (by omega))
  have R2 := Lib.hid (R2.out.only ho9 (by omega))
  have HN2 := Lib.hid (HN2.out.only ho9 (fun k hk => by have := HR2.out k hk; simp only [Rn, World.size_alloc] at this; omega))
  have HNZ := Lib.hid (HNZ.out.only ho9 (fun k hk => by have := HRZ.out k hk; simp only [Rn, World.size_alloc] at this; omega))
  have HB9 := Lib.hid (HB8.out.trans (ho9.below HB8.out.size (fun k hk => by omega)))
  clear ho9 hs1 hs2 hs3 hs4
  have K6 := Lib.hid (same_true m2 z w9 HN2.out.ok HNZ.out.ok (HD2.out.trans HDZ.out.symm))
  unfold Con.agg at K6
  clear p0 p1 p2 p3 p4 p5 p6 p7 p8 p9 p10
  obtain ⟨p0, p1, p2, p3, p4, p5, p6, p7, p8, p9, p10⟩ := R2.out.cells
  obtain ⟨q0, q1, q2, q3, q4, q5, q6, q7, q8, q9, q10⟩ := RZ.out.cells
  go_wp2_with fail
  refine K6.out.mono ?_
  rintro e w10 ⟨rfl, hb10⟩
  have HB10 := Lib.hid (HB9.out.trans (hb10.mono HB9.out.size))
  clear hb10
  go_wp2
  go_ret
  exact ⟨rfl, HB10.out⟩
theorem own : ownKnob Try.prog.godebug = none := by kernel_rfl
theorem laidOut : laidOutB Try.prog = true := by kernel_rfl
set_option maxRecDepth 100000 in
theorem lifted (os : Os) (started : os.Started) (H : Type) (enc : TypeId × Value → H) :
    ReturnsInHanded {} Try.checked os 3 .any (Rows.tradeMirrorsSpec.pre6 enc Try.prog Try.f3 Rows.tradeMirrorsRow.domain false) (Rows.tradeMirrorsSpec.post enc Try.prog Try.f3 false true false false) := by
  refine returnsInHanded_of_change_sized (C := Try.checked) own started (by kernel_rfl) Try.func3
    (ChangeSpec.witness6 (enc := enc) (C := Try.checked) false ⟨#[], #[.agg #[.int .i64 0, .int .i64 0, .int .i64 0, .int .i64 0, .int .i64 0, .int .i64 0, .int .u64 0, .int .u64 0, .int .u64 0, .int .i64 0, .slice none 0 0]], []⟩ 8 (by kernel_rfl) (by kernel_rfl) (by kernel_rfl) (by kernel_rfl)) ?_
  intro W base args ds gs before hval0 hW hcnd hsz0 _
  have hsz : (DataW.weightsEach Try.prog (Try.f3.params.toList ++ Rows.tradeMirrorsSpec.plain.varTypes Try.prog) (ds ++ gs)).all (· ≤ reachBytes) = true := hsz0
  clear hsz0
  have hval : ∀ (j : Nat) t v, Try.f3.params[j]? = some t → args[j]? = some v → Value.okWide Try.prog W .any base t v := hval0
  have hW' := hW
  obtain ⟨p, q, hA0, hV, rfl, hfz, hnd⟩ := hW
  have hA : DataW.TrodAll enc Try.prog W 0 (fun _ => true) true Try.f3.params.toList args.toList ds p := hA0
  rw [Try.params3] at hA hval hsz
  obtain ⟨v0, vs0, d0, ds0, p0, q0, hargs, rfl, rfl, h0, r0⟩ := trodAll_cons hA
  obtain ⟨rfl, rfl, rfl⟩ := trodAll_nil r0
  obtain rfl : args = #[v0] := by cases args; simp_all
  obtain ⟨rfl, rfl⟩ := trodVars_none hV
  have k0 := h0
  have lt0 : ∀ x ∈ p0, x.block < W.heap.size := by obtain ⟨m, hm⟩ := k0; exact DataW.trod_lt m _ _ _ hm
  obtain ⟨c0, rfl, n0⟩ := open_con (hval 0 25 v0 rfl rfl) h0 hsz (j := 0) rfl rfl
  clear hA0 hval0
  refine (walk c0 W n0).mono fun e W' ⟨he, bel⟩ => ?_
  subst he
  exact ⟨_, rfl, _, _, _, [], _, [], hW', trodAll_mk1 (shut_bool Try.underlying4 _), (trodAll_cons_mk (Below.trod laidOut (by kernel_rfl) (of_decide_eq_true (by kernel_rfl)) k0 bel lt0) trodAll_mk0), rfl, bel.frame _, fun h => by cases h⟩
theorem over : Rows.tradeMirrorsRow.holds Try.pinned (OpenSpec.ofChange Rows.tradeMirrorsSpec) :=
  OpenClaim.holds_of_wide 3 Try.f3 rfl rfl rfl rfl rfl rfl rfl ⟨rfl, rfl, rfl, rfl, rfl⟩ rfl rfl rfl rfl rfl (by kernel_rfl) Try.func3 (by kernel_rfl)
    (of_decide_eq_true (by kernel_rfl)) (by unfold Func.isWrapper; first | (rw [if_pos (by decide +kernel)]; kernel_rfl) | (rw [if_neg (by decide +kernel)]; exact ⟨rfl, rfl⟩))
    (fun os started H enc _ => lifted os started H enc)
theorem proved : Rows.TradeMirrorsSaid := over
#print axioms proved
end Go.Proofs.Ytiafhgcnjgpeaaa.lawTradeMirrors
