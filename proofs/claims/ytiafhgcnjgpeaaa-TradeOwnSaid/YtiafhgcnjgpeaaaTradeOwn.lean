/-
  Gifts and entries that are told twice are the same, and apart; written over and gone on with, they show nowhere, and what was handed in stays.
  No condition beyond the statement's own.
-/
import Derived.Test.YtiafhgcnjgpeaaaYf
import Derived.Test.YtiafhgcnjgpeaaaZc
import Derived.Test.YtiafhgcnjgpeaaaZj
import Derived.Deep.DeepCutAuto
import Derived.Deep.CutBlock
namespace Go.Proofs.Ytiafhgcnjgpeaaa
open Go.RowKit Go.K
theorem MR.of_owns {S : Nat → Prop} {W : World} {B t sz n cap i : Nat} {ad : Option Addr} {xs : List Value} (h : W.ownsRow B t sz (.slice ad n cap) n xs) (hS : ∀ k, (Value.slice ad n cap).ownBlock = some k → S k) : MR S t sz W (ad, n) i 0 := by
  rcases h.2 with ⟨h1, h0⟩ | ⟨g, cap', cur, hv, hg, hr, hle, hcm, hsz, _⟩
  · injection h1 with h2
    exact .inl ⟨h2, h0⟩
  · injection hv with h1 h2 h3
    subst h1
    exact .inr ⟨g, cur, rfl, hr, by rw [hsz]; exact Nat.mul_le_mul_right _ hle, hS g rfl, fun q hq => absurd hq (Nat.not_lt_zero q)⟩
theorem apart_of {ls : List (Option Addr × Nat)} (b : Nat → Nat) (hm : ∀ i, i < ls.length → b i ≤ b (i + 1)) (hr : ∀ i (h : i < ls.length) g, ls[i].1 = some ⟨g, 0, none⟩ → b i ≤ g ∧ g < b (i + 1)) :
    ∀ i j (h : i < ls.length) (h' : j < ls.length), i ≠ j → ∀ g, ls[j].1 = some ⟨g, 0, none⟩ → ls[i].1 ≠ some ⟨g, 0, none⟩ := by
  have mono : ∀ j i, i ≤ j → j ≤ ls.length → b i ≤ b j := by
    intro j
    induction j with
    | zero => intro i hi _; have : i = 0 := by omega
              subst this; exact Nat.le_refl _
    | succ j ih =>
      intro i hi hj
      by_cases e : i = j + 1
      · subst e; exact Nat.le_refl _
      · exact Nat.le_trans (ih i (by omega) (by omega)) (hm j (by omega))
  intro i j hi hj hne g h1 h2
  have q1 := hr i hi g h2
  have q2 := hr j hj g h1
  rcases Nat.lt_or_ge i j with h | h
  · have := mono j (i + 1) (by omega) (by omega); omega
  · have := mono i (j + 1) (by omega) (by omega); omega
theorem own_at {ad : Option Addr} {n cap g : Nat} (h : ad = some ⟨g, 0, none⟩) : (Value.slice ad n cap).ownBlock = some g := by subst h; rfl
end Go.Proofs.Ytiafhgcnjgpeaaa
namespace Go.Proofs.Ytiafhgcnjgpeaaa.lawTradeOwn
open Go.RowKit Go.K Go.ChangeShapes Go.WideShapes Go.ChangeAt
set_option linter.unusedVariables false
set_option linter.unusedSimpArgs false
set_option maxRecDepth 100000 in
set_option maxHeartbeats 8000000 in
theorem walk (c : Con) (e : Ent) (w : World) (hc : ConOk w c) (he : EntOk w e) : Calls Try.prog 9 #[c.agg, e.agg] w fun r w' => r = .returned (.bool true) ∧ Below w.heap.size w w' := by
  have HC := Lib.hid hc
  have HE := Lib.hid he
  have HGB := Lib.hid (show (backV c.es).length ≤ 5864062014500 by have := backV_length_le c.es; have := hc.mx; omega)
  have HJB := Lib.hid (joinG_le c e)
  clear hc he
  unfold Con.agg Ent.agg at *
  go_enter Try.func9, Try.ntmps9
  have HB0 := Lib.hid (((Below.refl w.heap.size w).alloc (Nat.le_refl _) (.cells #[.int .i64 c.num, .int .i64 c.kind, .int .i64 c.by', .int .i64 c.dl, .int .i64 c.to, .int .i64 c.want, .int .u64 c.price, .int .u64 c.reserve, .int .u64 c.step, .int .i64 c.of', .slice c.ea c.es.length c.ec] 25)).alloc (by simp) (.cells #[.int .i64 e.acc, .int .i64 e.item, .int .u64 e.coins, .int .u64 e.price, .slice e.wa e.ws.length e.wc] 44))
  go_wp2_with fail
  refine (awake_any _).mono ?_
  rintro r0 w1 ⟨rfl, hb1⟩
  have R1 := Lib.hid (show Box w1 w.heap.size c from row_kept (alloc_old (alloc_at rfl)) hb1)
  have E1 := Lib.hid (show EBox w1 (w.heap.size + 1) e from row_kept (alloc_at (by simp)) hb1)
  have HBw1 := Lib.hid (HB0.out.trans (hb1.mono (by simp; omega)))
  have SZw1 := Lib.hid (show w.heap.size + 2 ≤ w1.heap.size from by have := hb1.size; simp at this; omega)
  clear hb1
  have K10 := Lib.hid (lent_any c w1 (HC.out.kept HBw1.out))
  unfold Con.agg at K10
  obtain ⟨p0, p1, p2, p3, p4, p5, p6, p7, p8, p9, p10⟩ := R1.out.cells
  go_wp2_with fail
  refine K10.out.mono ?_
  rintro r0 w2 ⟨l, rfl, hld, hml, hb⟩
  clear K10
  clear p0 p1 p2 p3 p4 p5 p6 p7 p8 p9 p10
  have HML := Lib.hid hml
  have HLD := Lib.hid hld
  have HRL := Lib.hid hml.rn
  have HRW := Lib.hid hml.rnw
  have HTL := Lib.hid (show (termsV l != termsV l) = false by simp)
  clear hml hld
  have NB := Lib.hid (show Below w1.heap.size w1 w2 from hb)
  have SZw2 := Lib.hid NB.out.size
  have HBw2 := Lib.hid (HBw1.out.trans (NB.out.mono HBw1.out.size))
  have R1 := Lib.hid (R1.out.kept NB.out)
  have E1 := Lib.hid (E1.out.kept NB.out)
  clear NB hb
  have K19 := Lib.hid (back_any l (w2.alloc (.cells #[.int .i64 l.num, .int .i64 l.kind, .int .i64 l.by', .int .i64 l.dl, .int .i64 l.to, .int .i64 l.want, .int .u64 l.price, .int .u64 l.reserve, .int .u64 l.step, .int .i64 l.of', .slice l.ea l.es.length l.ec] 25)) ((HML.out.kept ((Below.refl _ _).alloc (Nat.le_refl _) (.cells #[.int .i64 l.num, .int .i64 l.kind, .int .i64 l.by', .int .i64 l.dl, .int .i64 l.to, .int .i64 l.want, .int .u64 l.price, .int .u64 l.reserve, .int .u64 l.step, .int .i64 l.of', .slice l.ea l.es.length l.ec] 25))).ok))
  rw [backV_d (con_es HLD.out)] at K19
  unfold Con.agg at K19
  go_wp2_with fail
  refine K19.out.mono ?_
  rintro r0 w3 ⟨aa, ac, rfl, ha, han, hb⟩
  clear K19
  have RL := Lib.hid (show Box w3 w2.heap.size l from row_kept (alloc_at rfl) hb)
  have NB := Lib.hid (show Below w2.heap.size w2 w3 from ((Below.refl _ _).alloc (Nat.le_refl _) (.cells #[.int .i64 l.num, .int .i64 l.kind, .int .i64 l.by', .int .i64 l.dl, .int .i64 l.to, .int .i64 l.want, .int .u64 l.price, .int .u64 l.reserve, .int .u64 l.step, .int .i64 l.of', .slice l.ea l.es.length l.ec] 25)).trans (hb.mono (by simp)))
  have SZw3 := Lib.hid (show w2.heap.size + 1 ≤ w3.heap.size from by have := hb.size; simpa using this)
  have HBw3 := Lib.hid (HBw2.out.trans (NB.out.mono HBw2.out.size))
  have R1 := Lib.hid (R1.out.kept NB.out)
  have E1 := Lib.hid (E1.out.kept NB.out)
  have HML := Lib.hid (HML.out.kept NB.out)
  clear NB hb
  have HA := Lib.hid ha
  have HRA := Lib.hid ha.lt
  clear ha han
  have K18 := Lib.hid (end_any l w3 HML.out.ok)
  rw [backV_d (con_es HLD.out)] at K18
  unfold Con.agg at K18
  obtain ⟨p0, p1, p2, p3, p4, p5, p6, p7, p8, p9, p10⟩ := RL.out.cells
  go_wp2_with fail
  refine K18.out.mono ?_
  rintro r0 w4 ⟨ba, bc, rfl, ha, han, hb⟩
  clear K18
  clear p0 p1 p2 p3 p4 p5 p6 p7 p8 p9 p10
  have NB := Lib.hid (show Below w3.heap.size w3 w4 from hb)
  have SZw4 := Lib.hid NB.out.size
  have HBw4 := Lib.hid (HBw3.out.trans (NB.out.mono HBw3.out.size))
  have R1 := Lib.hid (R1.out.kept NB.out)
  have E1 := Lib.hid (E1.out.kept NB.out)
  have HML := Lib.hid (HML.out.kept NB.out)
  have RL := Lib.hid (RL.out.kept NB.out)
  have HA := Lib.hid (owns_below (B := 0) HA.out NB.out)
  clear NB hb
  have HB := Lib.hid ha
  have HRB := Lib.hid ha.lt
  clear ha han
  have K19 := Lib.hid (back_any l w4 HML.out.ok)
  rw [backV_d (con_es HLD.out)] at K19
  unfold Con.agg at K19
  obtain ⟨p0, p1, p2, p3, p4, p5, p6, p7, p8, p9, p10⟩ := RL.out.cells
  go_wp2_with fail
  refine K19.out.mono ?_
  rintro r0 w5 ⟨xa, xc, rfl, ha, han, hb⟩
  clear K19
  clear p0 p1 p2 p3 p4 p5 p6 p7 p8 p9 p10
  have NB := Lib.hid (show Below w4.heap.size w4 w5 from hb)
  have SZw5 := Lib.hid NB.out.size
  have HBw5 := Lib.hid (HBw4.out.trans (NB.out.mono HBw4.out.size))
  have R1 := Lib.hid (R1.out.kept NB.out)
  have E1 := Lib.hid (E1.out.kept NB.out)
  have HML := Lib.hid (HML.out.kept NB.out)
  have RL := Lib.hid (RL.out.kept NB.out)
  have HA := Lib.hid (owns_below (B := 0) HA.out NB.out)
  have HB := Lib.hid (owns_below (B := 0) HB.out NB.out)
  clear NB hb
  have HX := Lib.hid ha
  have HRX := Lib.hid ha.lt
  clear ha han
  have K26 := Lib.hid (join_at l c e e w5 HML.out.ok (HE.out.kept HBw5.out) HLD.out rfl)
  unfold JoinsAs Con.agg Ent.agg at K26
  obtain ⟨p0, p1, p2, p3, p4, p5, p6, p7, p8, p9, p10⟩ := RL.out.cells
  obtain ⟨q0, q1, q2, q3, q4⟩ := E1.out.cells
  go_wp2_with fail
  refine K26.out.mono ?_
  rintro r0 w6 ⟨d, la, lc, rfl, hd, hbd, ha, han, hb⟩
  clear K26
  clear p0 p1 p2 p3 p4 p5 p6 p7 p8 p9 p10
  clear q0 q1 q2 q3 q4
  have NB := Lib.hid (show Below w5.heap.size w5 w6 from hb)
  have SZw6 := Lib.hid NB.out.size
  have HBw6 := Lib.hid (HBw5.out.trans (NB.out.mono HBw5.out.size))
  have R1 := Lib.hid (R1.out.kept NB.out)
  have E1 := Lib.hid (E1.out.kept NB.out)
  have HML := Lib.hid (HML.out.kept NB.out)
  have RL := Lib.hid (RL.out.kept NB.out)
  have HA := Lib.hid (owns_below (B := 0) HA.out NB.out)
  have HB := Lib.hid (owns_below (B := 0) HB.out NB.out)
  have HX := Lib.hid (owns_below (B := 0) HX.out NB.out)
  clear NB hb
  have HL := Lib.hid ha
  have HRG := Lib.hid ha.lt
  have HD := Lib.hid hbd
  clear ha han hd hbd
  have K26 := Lib.hid (join_at l c e e (w6.alloc (.cells #[.int .i64 d.num, .int .i64 d.kind, .int .i64 d.by', .int .i64 d.dl, .int .i64 d.to, .int .i64 d.want, .int .u64 d.price, .int .u64 d.reserve, .int .u64 d.step, .int .i64 d.of', .slice d.ea d.es.length d.ec] 25)) ((HML.out.kept ((Below.refl _ _).alloc (Nat.le_refl _) (.cells #[.int .i64 d.num, .int .i64 d.kind, .int .i64 d.by', .int .i64 d.dl, .int .i64 d.to, .int .i64 d.want, .int .u64 d.price, .int .u64 d.reserve, .int .u64 d.step, .int .i64 d.of', .slice d.ea d.es.length d.ec] 25))).ok) (HE.out.kept (HBw6.out.alloc HBw6.out.size (.cells #[.int .i64 d.num, .int .i64 d.kind, .int .i64 d.by', .int .i64 d.dl, .int .i64 d.to, .int .i64 d.want, .int .u64 d.price, .int .u64 d.reserve, .int .u64 d.step, .int .i64 d.of', .slice d.ea d.es.length d.ec] 25))) HLD.out rfl)
  unfold JoinsAs Con.agg Ent.agg at K26
  obtain ⟨p0, p1, p2, p3, p4, p5, p6, p7, p8, p9, p10⟩ := RL.out.cellsA
  obtain ⟨q0, q1, q2, q3, q4⟩ := E1.out.cellsA
  go_wp2_with fail
  refine K26.out.mono ?_
  rintro r0 w7 ⟨d2, ma, mc, rfl, hd, hbd, ha, han, hb⟩
  clear K26
  clear p0 p1 p2 p3 p4 p5 p6 p7 p8 p9 p10
  clear q0 q1 q2 q3 q4
  have RD := Lib.hid (show Box w7 w6.heap.size d from row_kept (alloc_at rfl) hb)
  have NB := Lib.hid (show Below w6.heap.size w6 w7 from ((Below.refl _ _).alloc (Nat.le_refl _) (.cells #[.int .i64 d.num, .int .i64 d.kind, .int .i64 d.by', .int .i64 d.dl, .int .i64 d.to, .int .i64 d.want, .int .u64 d.price, .int .u64 d.reserve, .int .u64 d.step, .int .i64 d.of', .slice d.ea d.es.length d.ec] 25)).trans (hb.mono (by simp)))
  have SZw7 := Lib.hid (show w6.heap.size + 1 ≤ w7.heap.size from by have := hb.size; simpa using this)
  have HBw7 := Lib.hid (HBw6.out.trans (NB.out.mono HBw6.out.size))
  have R1 := Lib.hid (R1.out.kept NB.out)
  have E1 := Lib.hid (E1.out.kept NB.out)
  have HML := Lib.hid (HML.out.kept NB.out)
  have RL := Lib.hid (RL.out.kept NB.out)
  have HA := Lib.hid (owns_below (B := 0) HA.out NB.out)
  have HB := Lib.hid (owns_below (B := 0) HB.out NB.out)
  have HX := Lib.hid (owns_below (B := 0) HX.out NB.out)
  have HL := Lib.hid (owns_below (B := 0) HL.out NB.out)
  clear NB hb
  have HM := Lib.hid ha
  have HRM := Lib.hid ha.lt
  clear ha han hd hbd
  have K11 := Lib.hid (mirror_any l (w7.alloc (.cells #[.int .i64 d2.num, .int .i64 d2.kind, .int .i64 d2.by', .int .i64 d2.dl, .int .i64 d2.to, .int .i64 d2.want, .int .u64 d2.price, .int .u64 d2.reserve, .int .u64 d2.step, .int .i64 d2.of', .slice d2.ea d2.es.length d2.ec] 25)) ((HML.out.kept ((Below.refl _ _).alloc (Nat.le_refl _) (.cells #[.int .i64 d2.num, .int .i64 d2.kind, .int .i64 d2.by', .int .i64 d2.dl, .int .i64 d2.to, .int .i64 d2.want, .int .u64 d2.price, .int .u64 d2.reserve, .int .u64 d2.step, .int .i64 d2.of', .slice d2.ea d2.es.length d2.ec] 25))).ok))
  unfold Con.agg at K11
  obtain ⟨p0, p1, p2, p3, p4, p5, p6, p7, p8, p9, p10⟩ := RL.out.cellsA
  go_wp2_with fail
  refine K11.out.mono ?_
  rintro r0 w8 ⟨m1, rfl, hd, hn, hb⟩
  clear K11
  clear p0 p1 p2 p3 p4 p5 p6 p7 p8 p9 p10
  have RD2 := Lib.hid (show Box w8 w7.heap.size d2 from row_kept (alloc_at rfl) hb)
  have NB := Lib.hid (show Below w7.heap.size w7 w8 from ((Below.refl _ _).alloc (Nat.le_refl _) (.cells #[.int .i64 d2.num, .int .i64 d2.kind, .int .i64 d2.by', .int .i64 d2.dl, .int .i64 d2.to, .int .i64 d2.want, .int .u64 d2.price, .int .u64 d2.reserve, .int .u64 d2.step, .int .i64 d2.of', .slice d2.ea d2.es.length d2.ec] 25)).trans (hb.mono (by simp)))
  have SZw8 := Lib.hid (show w7.heap.size + 1 ≤ w8.heap.size from by have := hb.size; simpa using this)
  have HBw8 := Lib.hid (HBw7.out.trans (NB.out.mono HBw7.out.size))
  have R1 := Lib.hid (R1.out.kept NB.out)
  have E1 := Lib.hid (E1.out.kept NB.out)
  have HML := Lib.hid (HML.out.kept NB.out)
  have RL := Lib.hid (RL.out.kept NB.out)
  have HA := Lib.hid (owns_below (B := 0) HA.out NB.out)
  have HB := Lib.hid (owns_below (B := 0) HB.out NB.out)
  have HX := Lib.hid (owns_below (B := 0) HX.out NB.out)
  have HL := Lib.hid (owns_below (B := 0) HL.out NB.out)
  have RD := Lib.hid (RD.out.kept NB.out)
  have HM := Lib.hid (owns_below (B := 0) HM.out NB.out)
  clear NB hb
  have HN1 := Lib.hid hn
  have HRN1 := Lib.hid hn.row.lt
  have HD1 := Lib.hid hd
  clear hd hn
  have K11 := Lib.hid (mirror_any l (w8.alloc (.cells #[.int .i64 m1.num, .int .i64 m1.kind, .int .i64 m1.by', .int .i64 m1.dl, .int .i64 m1.to, .int .i64 m1.want, .int .u64 m1.price, .int .u64 m1.reserve, .int .u64 m1.step, .int .i64 m1.of', .slice m1.ea m1.es.length m1.ec] 25)) ((HML.out.kept ((Below.refl _ _).alloc (Nat.le_refl _) (.cells #[.int .i64 m1.num, .int .i64 m1.kind, .int .i64 m1.by', .int .i64 m1.dl, .int .i64 m1.to, .int .i64 m1.want, .int .u64 m1.price, .int .u64 m1.reserve, .int .u64 m1.step, .int .i64 m1.of', .slice m1.ea m1.es.length m1.ec] 25))).ok))
  unfold Con.agg at K11
  obtain ⟨p0, p1, p2, p3, p4, p5, p6, p7, p8, p9, p10⟩ := RL.out.cellsA
  go_wp2_with fail
  refine K11.out.mono ?_
  rintro r0 w9 ⟨m2, rfl, hd, hn, hb⟩
  clear K11
  clear p0 p1 p2 p3 p4 p5 p6 p7 p8 p9 p10
  have RM1 := Lib.hid (show Box w9 w8.heap.size m1 from row_kept (alloc_at rfl) hb)
  have NB := Lib.hid (show Below w8.heap.size w8 w9 from ((Below.refl _ _).alloc (Nat.le_refl _) (.cells #[.int .i64 m1.num, .int .i64 m1.kind, .int .i64 m1.by', .int .i64 m1.dl, .int .i64 m1.to, .int .i64 m1.want, .int .u64 m1.price, .int .u64 m1.reserve, .int .u64 m1.step, .int .i64 m1.of', .slice m1.ea m1.es.length m1.ec] 25)).trans (hb.mono (by simp)))
  have SZw9 := Lib.hid (show w8.heap.size + 1 ≤ w9.heap.size from by have := hb.size; simpa using this)
  have HBw9 := Lib.hid (HBw8.out.trans (NB.out.mono HBw8.out.size))
  have R1 := Lib.hid (R1.out.kept NB.out)
  have E1 := Lib.hid (E1.out.kept NB.out)
  have HML := Lib.hid (HML.out.kept NB.out)
  have RL := Lib.hid (RL.out.kept NB.out)
  have HA := Lib.hid (owns_below (B := 0) HA.out NB.out)
  have HB := Lib.hid (owns_below (B := 0) HB.out NB.out)
  have HX := Lib.hid (owns_below (B := 0) HX.out NB.out)
  have HL := Lib.hid (owns_below (B := 0) HL.out NB.out)
  have RD := Lib.hid (RD.out.kept NB.out)
  have HM := Lib.hid (owns_below (B := 0) HM.out NB.out)
  have RD2 := Lib.hid (RD2.out.kept NB.out)
  have HN1 := Lib.hid (HN1.out.kept NB.out)
  clear NB hb
  have HN2 := Lib.hid hn
  have HRN2 := Lib.hid hn.row.lt
  have HD2 := Lib.hid hd
  clear hd hn
  go_upto_region 11 with fail
  go_cut [99] from 57 to 99 (fun s W => s = .bool false ∧ Below (w9.alloc (.cells #[.int .i64 m2.num, .int .i64 m2.kind, .int .i64 m2.by', .int .i64 m2.dl, .int .i64 m2.to, .int .i64 m2.want, .int .u64 m2.price, .int .u64 m2.reserve, .int .u64 m2.step, .int .i64 m2.of', .slice m2.ea m2.es.length m2.ec] 25)).heap.size (w9.alloc (.cells #[.int .i64 m2.num, .int .i64 m2.kind, .int .i64 m2.by', .int .i64 m2.dl, .int .i64 m2.to, .int .i64 m2.want, .int .u64 m2.price, .int .u64 m2.reserve, .int .u64 m2.step, .int .i64 m2.of', .slice m2.ea m2.es.length m2.ec] 25)) W)
  case first =>
    have K22 := Lib.hid (gifts_true aa ba (backV c.es).length (backV c.es).length (backV c.es) (w9.alloc (.cells #[.int .i64 m2.num, .int .i64 m2.kind, .int .i64 m2.by', .int .i64 m2.dl, .int .i64 m2.to, .int .i64 m2.want, .int .u64 m2.price, .int .u64 m2.reserve, .int .u64 m2.step, .int .i64 m2.of', .slice m2.ea m2.es.length m2.ec] 25)) (Nat.le_trans HGB.out (by decide)) ((sl_owns HA.out).kept ((Below.refl _ _).alloc (Nat.le_refl _) (.cells #[.int .i64 m2.num, .int .i64 m2.kind, .int .i64 m2.by', .int .i64 m2.dl, .int .i64 m2.to, .int .i64 m2.want, .int .u64 m2.price, .int .u64 m2.reserve, .int .u64 m2.step, .int .i64 m2.of', .slice m2.ea m2.es.length m2.ec] 25))) ((sl_owns HB.out).kept ((Below.refl _ _).alloc (Nat.le_refl _) (.cells #[.int .i64 m2.num, .int .i64 m2.kind, .int .i64 m2.by', .int .i64 m2.dl, .int .i64 m2.to, .int .i64 m2.want, .int .u64 m2.price, .int .u64 m2.reserve, .int .u64 m2.step, .int .i64 m2.of', .slice m2.ea m2.es.length m2.ec] 25))))
    go_wp2_with fail
    with_reducible refine K22.out.mono ?_
    rintro r0 w10 ⟨rfl, hq⟩
    have hb := hq.below (w9.alloc (.cells #[.int .i64 m2.num, .int .i64 m2.kind, .int .i64 m2.by', .int .i64 m2.dl, .int .i64 m2.to, .int .i64 m2.want, .int .u64 m2.price, .int .u64 m2.reserve, .int .u64 m2.step, .int .i64 m2.of', .slice m2.ea m2.es.length m2.ec] 25)).heap.size
    clear hq K22
    have HZ := Lib.hid hb
    have RM2 := Lib.hid (show Box w10 w9.heap.size m2 from row_kept (alloc_at rfl) hb)
    have NB := Lib.hid (show Below w9.heap.size w9 w10 from ((Below.refl _ _).alloc (Nat.le_refl _) (.cells #[.int .i64 m2.num, .int .i64 m2.kind, .int .i64 m2.by', .int .i64 m2.dl, .int .i64 m2.to, .int .i64 m2.want, .int .u64 m2.price, .int .u64 m2.reserve, .int .u64 m2.step, .int .i64 m2.of', .slice m2.ea m2.es.length m2.ec] 25)).trans (hb.mono (by simp)))
    have SZw10 := Lib.hid (show w9.heap.size + 1 ≤ w10.heap.size from by have := hb.size; simpa using this)
    have HBw10 := Lib.hid (HBw9.out.trans (NB.out.mono HBw9.out.size))
    have R1 := Lib.hid (R1.out.kept NB.out)
    have E1 := Lib.hid (E1.out.kept NB.out)
    have HML := Lib.hid (HML.out.kept NB.out)
    have RL := Lib.hid (RL.out.kept NB.out)
    have HA := Lib.hid (owns_below (B := 0) HA.out NB.out)
    have HB := Lib.hid (owns_below (B := 0) HB.out NB.out)
    have HX := Lib.hid (owns_below (B := 0) HX.out NB.out)
    have HL := Lib.hid (owns_below (B := 0) HL.out NB.out)
    have RD := Lib.hid (RD.out.kept NB.out)
    have HM := Lib.hid (owns_below (B := 0) HM.out NB.out)
    have RD2 := Lib.hid (RD2.out.kept NB.out)
    have HN1 := Lib.hid (HN1.out.kept NB.out)
    have RM1 := Lib.hid (RM1.out.kept NB.out)
    have HN2 := Lib.hid (HN2.out.kept NB.out)
    clear NB hb
    have K22 := Lib.hid (gifts_true aa xa (backV c.es).length (backV c.es).length (backV c.es) w10 (Nat.le_trans HGB.out (by decide)) (sl_owns HA.out) (sl_owns HX.out))
    go_wp2_with fail
    with_reducible refine K22.out.mono ?_
    rintro r0 w11 ⟨rfl, hq⟩
    have hb := hq.below w10.heap.size
    clear hq K22
    have HZ := Lib.hid (HZ.out.trans (hb.mono HZ.out.size))
    have NB := Lib.hid (show Below w10.heap.size w10 w11 from hb)
    have SZw11 := Lib.hid NB.out.size
    have HBw11 := Lib.hid (HBw10.out.trans (NB.out.mono HBw10.out.size))
    have R1 := Lib.hid (R1.out.kept NB.out)
    have E1 := Lib.hid (E1.out.kept NB.out)
    have HML := Lib.hid (HML.out.kept NB.out)
    have RL := Lib.hid (RL.out.kept NB.out)
    have HA := Lib.hid (owns_below (B := 0) HA.out NB.out)
    have HB := Lib.hid (owns_below (B := 0) HB.out NB.out)
    have HX := Lib.hid (owns_below (B := 0) HX.out NB.out)
    have HL := Lib.hid (owns_below (B := 0) HL.out NB.out)
    have RD := Lib.hid (RD.out.kept NB.out)
    have HM := Lib.hid (owns_below (B := 0) HM.out NB.out)
    have RD2 := Lib.hid (RD2.out.kept NB.out)
    have HN1 := Lib.hid (HN1.out.kept NB.out)
    have RM1 := Lib.hid (RM1.out.kept NB.out)
    have HN2 := Lib.hid (HN2.out.kept NB.out)
    have RM2 := Lib.hid (RM2.out.kept NB.out)
    clear NB hb
    have K22 := Lib.hid (gifts_true la ma (joinG c e).length (joinG c e).length (joinG c e) w11 (Nat.le_trans HJB.out (by decide)) (sl_owns HL.out) (sl_owns HM.out))
    go_wp2_with fail
    with_reducible refine K22.out.mono ?_
    rintro r0 w12 ⟨rfl, hq⟩
    have hb := hq.below w11.heap.size
    clear hq K22
    have HZ := Lib.hid (HZ.out.trans (hb.mono HZ.out.size))
    have NB := Lib.hid (show Below w11.heap.size w11 w12 from hb)
    have SZw12 := Lib.hid NB.out.size
    have HBw12 := Lib.hid (HBw11.out.trans (NB.out.mono HBw11.out.size))
    have R1 := Lib.hid (R1.out.kept NB.out)
    have E1 := Lib.hid (E1.out.kept NB.out)
    have HML := Lib.hid (HML.out.kept NB.out)
    have RL := Lib.hid (RL.out.kept NB.out)
    have HA := Lib.hid (owns_below (B := 0) HA.out NB.out)
    have HB := Lib.hid (owns_below (B := 0) HB.out NB.out)
    have HX := Lib.hid (owns_below (B := 0) HX.out NB.out)
    have HL := Lib.hid (owns_below (B := 0) HL.out NB.out)
    have RD := Lib.hid (RD.out.kept NB.out)
    have HM := Lib.hid (owns_below (B := 0) HM.out NB.out)
    have RD2 := Lib.hid (RD2.out.kept NB.out)
    have HN1 := Lib.hid (HN1.out.kept NB.out)
    have RM1 := Lib.hid (RM1.out.kept NB.out)
    have HN2 := Lib.hid (HN2.out.kept NB.out)
    have RM2 := Lib.hid (RM2.out.kept NB.out)
    clear NB hb
    have t1 : (joinV c e != joinV c e) = false := by simp
    have t2 := HTL.out
    have K14 := Lib.hid (same_true m1 m2 w12 HN1.out.ok HN2.out.ok (HD1.out.trans HD2.out.symm))
    unfold Con.agg at K14
    obtain ⟨p0, p1, p2, p3, p4, p5, p6, p7, p8, p9, p10⟩ := RM1.out.cells
    obtain ⟨q0, q1, q2, q3, q4, q5, q6, q7, q8, q9, q10⟩ := RM2.out.cells
    go_wp2_with fail
    refine K14.out.mono ?_
    rintro r0 w13 ⟨rfl, hb⟩
    clear K14
    have HZ := Lib.hid (HZ.out.trans (hb.mono HZ.out.size))
    clear p0 p1 p2 p3 p4 p5 p6 p7 p8 p9 p10
    clear q0 q1 q2 q3 q4 q5 q6 q7 q8 q9 q10
    have NB := Lib.hid (show Below w12.heap.size w12 w13 from hb)
    have SZw13 := Lib.hid NB.out.size
    have HBw13 := Lib.hid (HBw12.out.trans (NB.out.mono HBw12.out.size))
    have R1 := Lib.hid (R1.out.kept NB.out)
    have E1 := Lib.hid (E1.out.kept NB.out)
    have HML := Lib.hid (HML.out.kept NB.out)
    have RL := Lib.hid (RL.out.kept NB.out)
    have HA := Lib.hid (owns_below (B := 0) HA.out NB.out)
    have HB := Lib.hid (owns_below (B := 0) HB.out NB.out)
    have HX := Lib.hid (owns_below (B := 0) HX.out NB.out)
    have HL := Lib.hid (owns_below (B := 0) HL.out NB.out)
    have RD := Lib.hid (RD.out.kept NB.out)
    have HM := Lib.hid (owns_below (B := 0) HM.out NB.out)
    have RD2 := Lib.hid (RD2.out.kept NB.out)
    have HN1 := Lib.hid (HN1.out.kept NB.out)
    have RM1 := Lib.hid (RM1.out.kept NB.out)
    have HN2 := Lib.hid (HN2.out.kept NB.out)
    have RM2 := Lib.hid (RM2.out.kept NB.out)
    clear NB hb
    have hz : (((d.es.length : Nat) : Int) != 0) = false := by rw [HD.out.2.2]; rfl
    have z10 : w13.cell? ⟨w6.heap.size, 10, none⟩ = some (.slice d.ea d.es.length d.ec) := RD.out.cells.2.2.2.2.2.2.2.2.2.2
    clear t1 t2
    by_cases hJ : joinV c e = 0
    · have j0 : (joinV c e == 0) = true := by simpa using hJ
      clear hJ
      go_wp2_with (first
        | (go_at_call 13; refine (num_any _ _).mono ?_; rintro r0 wz ⟨rfl, rfl⟩)
        | fail)
      go_meet
      exact ⟨rfl, HZ.out⟩
    · have j0 : (joinV c e == 0) = false := by simpa using hJ
      clear hJ
      go_wp2_with (first
        | (go_at_call 13; refine (num_any _ _).mono ?_; rintro r0 wz ⟨rfl, rfl⟩)
        | fail)
      go_meet
      exact ⟨rfl, HZ.out⟩
  case rest =>
    obtain ⟨rfl, hb⟩ := hcut
    obtain ⟨w10, h10⟩ : ∃ W, W = wc := ⟨_, rfl⟩
    subst h10
    have RM2 := Lib.hid (show Box w10 w9.heap.size m2 from row_kept (alloc_at rfl) hb)
    have NB := Lib.hid (show Below w9.heap.size w9 w10 from ((Below.refl _ _).alloc (Nat.le_refl _) (.cells #[.int .i64 m2.num, .int .i64 m2.kind, .int .i64 m2.by', .int .i64 m2.dl, .int .i64 m2.to, .int .i64 m2.want, .int .u64 m2.price, .int .u64 m2.reserve, .int .u64 m2.step, .int .i64 m2.of', .slice m2.ea m2.es.length m2.ec] 25)).trans (hb.mono (by simp)))
    have SZw10 := Lib.hid (show w9.heap.size + 1 ≤ w10.heap.size from by have := hb.size; simpa using this)
    have HBw10 := Lib.hid (HBw9.out.trans (NB.out.mono HBw9.out.size))
    have R1 := Lib.hid (R1.out.kept NB.out)
    have E1 := Lib.hid (E1.out.kept NB.out)
    have HML := Lib.hid (HML.out.kept NB.out)
    have RL := Lib.hid (RL.out.kept NB.out)
    have HA := Lib.hid (owns_below (B := 0) HA.out NB.out)
    have HB := Lib.hid (owns_below (B := 0) HB.out NB.out)
    have HX := Lib.hid (owns_below (B := 0) HX.out NB.out)
    have HL := Lib.hid (owns_below (B := 0) HL.out NB.out)
    have RD := Lib.hid (RD.out.kept NB.out)
    have HM := Lib.hid (owns_below (B := 0) HM.out NB.out)
    have RD2 := Lib.hid (RD2.out.kept NB.out)
    have HN1 := Lib.hid (HN1.out.kept NB.out)
    have RM1 := Lib.hid (RM1.out.kept NB.out)
    have HN2 := Lib.hid (HN2.out.kept NB.out)
    clear NB hb
    have HS := Lib.hid (show ∀ i, i < 5 → ([w2.heap.size + 1, w3.heap.size, w4.heap.size, w5.heap.size, w6.heap.size, w7.heap.size] : List Nat).getD i 0 ≤ ([w2.heap.size + 1, w3.heap.size, w4.heap.size, w5.heap.size, w6.heap.size, w7.heap.size] : List Nat).getD (i + 1) 0 from fun i hi => by
      have sw2 := SZw2.out
      have sw3 := SZw3.out
      have sw4 := SZw4.out
      have sw5 := SZw5.out
      have sw6 := SZw6.out
      have sw7 := SZw7.out
      have sw8 := SZw8.out
      have sw9 := SZw9.out
      have sw10 := SZw10.out
      match i, hi with
      | 0, _ => show w2.heap.size + 1 ≤ w3.heap.size; omega
      | 1, _ => show w3.heap.size ≤ w4.heap.size; omega
      | 2, _ => show w4.heap.size ≤ w5.heap.size; omega
      | 3, _ => show w5.heap.size ≤ w6.heap.size; omega
      | 4, _ => show w6.heap.size ≤ w7.heap.size; omega)
    have HP := Lib.hid (apart_of (ls := [(aa, (backV c.es).length), (ba, (backV c.es).length), (xa, (backV c.es).length), (la, (joinG c e).length), (ma, (joinG c e).length)]) (fun i => ([w2.heap.size + 1, w3.heap.size, w4.heap.size, w5.heap.size, w6.heap.size, w7.heap.size] : List Nat).getD i 0) HS.out (fun i hi g hg => by
      have sw2 := SZw2.out
      have sw3 := SZw3.out
      have sw4 := SZw4.out
      have sw5 := SZw5.out
      have sw6 := SZw6.out
      have sw7 := SZw7.out
      have sw8 := SZw8.out
      have sw9 := SZw9.out
      have sw10 := SZw10.out
      match i, hi, hg with
      | 0, _, hg => have hh := HRA.out g (own_at hg); show w2.heap.size + 1 ≤ g ∧ g < w3.heap.size; (try simp only [World.size_alloc] at hh); omega
      | 1, _, hg => have hh := HRB.out g (own_at hg); show w3.heap.size ≤ g ∧ g < w4.heap.size; (try simp only [World.size_alloc] at hh); omega
      | 2, _, hg => have hh := HRX.out g (own_at hg); show w4.heap.size ≤ g ∧ g < w5.heap.size; (try simp only [World.size_alloc] at hh); omega
      | 3, _, hg => have hh := HRG.out g (own_at hg); show w5.heap.size ≤ g ∧ g < w6.heap.size; (try simp only [World.size_alloc] at hh); omega
      | 4, _, hg => have hh := HRM.out g (own_at hg); show w6.heap.size ≤ g ∧ g < w7.heap.size; (try simp only [World.size_alloc] at hh); omega))
    have HMR := Lib.hid (show ∀ i (h : i < ([(aa, (backV c.es).length), (ba, (backV c.es).length), (xa, (backV c.es).length), (la, (joinG c e).length), (ma, (joinG c e).length)] : List (Option Addr × Nat)).length), MR (fun k => (w2.heap.size + 1 ≤ k ∧ k < w6.heap.size) ∨ (w6.heap.size + 1 ≤ k ∧ k < w7.heap.size)) 56 3 (w10.alloc (.cells #[.slice aa (backV c.es).length (backV c.es).length, .slice ba (backV c.es).length (backV c.es).length, .slice xa (backV c.es).length (backV c.es).length, .slice la (joinG c e).length (joinG c e).length, .slice ma (joinG c e).length (joinG c e).length] 37)) ([(aa, (backV c.es).length), (ba, (backV c.es).length), (xa, (backV c.es).length), (la, (joinG c e).length), (ma, (joinG c e).length)] : List (Option Addr × Nat))[i] i 0 from fun i hi => by
      match i, hi with
      | 0, _ => exact MR.of_owns (owns_below (B := 0) HA.out ((Below.refl _ _).alloc (Nat.le_refl _) (.cells #[.slice aa (backV c.es).length (backV c.es).length, .slice ba (backV c.es).length (backV c.es).length, .slice xa (backV c.es).length (backV c.es).length, .slice la (joinG c e).length (joinG c e).length, .slice ma (joinG c e).length (joinG c e).length] 37))) (fun k hk => by have hh := HRA.out k hk; (try simp only [World.size_alloc] at hh); have sw2 := SZw2.out; have sw3 := SZw3.out; have sw4 := SZw4.out; have sw5 := SZw5.out; have sw6 := SZw6.out; have sw7 := SZw7.out; have sw8 := SZw8.out; have sw9 := SZw9.out; have sw10 := SZw10.out; omega)
      | 1, _ => exact MR.of_owns (owns_below (B := 0) HB.out ((Below.refl _ _).alloc (Nat.le_refl _) (.cells #[.slice aa (backV c.es).length (backV c.es).length, .slice ba (backV c.es).length (backV c.es).length, .slice xa (backV c.es).length (backV c.es).length, .slice la (joinG c e).length (joinG c e).length, .slice ma (joinG c e).length (joinG c e).length] 37))) (fun k hk => by have hh := HRB.out k hk; (try simp only [World.size_alloc] at hh); have sw2 := SZw2.out; have sw3 := SZw3.out; have sw4 := SZw4.out; have sw5 := SZw5.out; have sw6 := SZw6.out; have sw7 := SZw7.out; have sw8 := SZw8.out; have sw9 := SZw9.out; have sw10 := SZw10.out; omega)
      | 2, _ => exact MR.of_owns (owns_below (B := 0) HX.out ((Below.refl _ _).alloc (Nat.le_refl _) (.cells #[.slice aa (backV c.es).length (backV c.es).length, .slice ba (backV c.es).length (backV c.es).length, .slice xa (backV c.es).length (backV c.es).length, .slice la (joinG c e).length (joinG c e).length, .slice ma (joinG c e).length (joinG c e).length] 37))) (fun k hk => by have hh := HRX.out k hk; (try simp only [World.size_alloc] at hh); have sw2 := SZw2.out; have sw3 := SZw3.out; have sw4 := SZw4.out; have sw5 := SZw5.out; have sw6 := SZw6.out; have sw7 := SZw7.out; have sw8 := SZw8.out; have sw9 := SZw9.out; have sw10 := SZw10.out; omega)
      | 3, _ => exact MR.of_owns (owns_below (B := 0) HL.out ((Below.refl _ _).alloc (Nat.le_refl _) (.cells #[.slice aa (backV c.es).length (backV c.es).length, .slice ba (backV c.es).length (backV c.es).length, .slice xa (backV c.es).length (backV c.es).length, .slice la (joinG c e).length (joinG c e).length, .slice ma (joinG c e).length (joinG c e).length] 37))) (fun k hk => by have hh := HRG.out k hk; (try simp only [World.size_alloc] at hh); have sw2 := SZw2.out; have sw3 := SZw3.out; have sw4 := SZw4.out; have sw5 := SZw5.out; have sw6 := SZw6.out; have sw7 := SZw7.out; have sw8 := SZw8.out; have sw9 := SZw9.out; have sw10 := SZw10.out; omega)
      | 4, _ => exact MR.of_owns (owns_below (B := 0) HM.out ((Below.refl _ _).alloc (Nat.le_refl _) (.cells #[.slice aa (backV c.es).length (backV c.es).length, .slice ba (backV c.es).length (backV c.es).length, .slice xa (backV c.es).length (backV c.es).length, .slice la (joinG c e).length (joinG c e).length, .slice ma (joinG c e).length (joinG c e).length] 37))) (fun k hk => by have hh := HRM.out k hk; (try simp only [World.size_alloc] at hh); have sw2 := SZw2.out; have sw3 := SZw3.out; have sw4 := SZw4.out; have sw5 := SZw5.out; have sw6 := SZw6.out; have sw7 := SZw7.out; have sw8 := SZw8.out; have sw9 := SZw9.out; have sw10 := SZw10.out; omega))
    have HBD := Lib.hid (show ∀ r ∈ ([(aa, (backV c.es).length), (ba, (backV c.es).length), (xa, (backV c.es).length), (la, (joinG c e).length), (ma, (joinG c e).length)] : List (Option Addr × Nat)), r.2 ≤ 5864062014500 from fun r hr => by
      have h1 := HGB.out
      have h2 := HJB.out
      simp only [List.mem_cons, List.not_mem_nil, or_false] at hr
      rcases hr with rfl | rfl | rfl | rfl | rfl <;> simp only <;> omega)
    have K37 := Lib.hid (show Calls Try.prog 37 #[.slice (some ⟨w10.heap.size, 0, none⟩) 5 5] (w10.alloc (.cells #[.slice aa (backV c.es).length (backV c.es).length, .slice ba (backV c.es).length (backV c.es).length, .slice xa (backV c.es).length (backV c.es).length, .slice la (joinG c e).length (joinG c e).length, .slice ma (joinG c e).length (joinG c e).length] 37)) _ from markG_any (fun k => (w2.heap.size + 1 ≤ k ∧ k < w6.heap.size) ∨ (w6.heap.size + 1 ≤ k ∧ k < w7.heap.size)) [(aa, (backV c.es).length), (ba, (backV c.es).length), (xa, (backV c.es).length), (la, (joinG c e).length), (ma, (joinG c e).length)] w10.heap.size (w10.alloc (.cells #[.slice aa (backV c.es).length (backV c.es).length, .slice ba (backV c.es).length (backV c.es).length, .slice xa (backV c.es).length (backV c.es).length, .slice la (joinG c e).length (joinG c e).length, .slice ma (joinG c e).length (joinG c e).length] 37)) ⟨by show 0 < 5; omega, by show 5 ≤ 8; omega⟩ HBD.out (alloc_at rfl) HMR.out HP.out)
    clear HMR HP HS HBD
    go_wp2_with fail
    refine K37.out.mono ?_
    rintro r0 w14 ⟨rfl, ho⟩
    clear K37
    have sw2 := SZw2.out
    have sw3 := SZw3.out
    have sw4 := SZw4.out
    have sw5 := SZw5.out
    have sw6 := SZw6.out
    have sw7 := SZw7.out
    have sw8 := SZw8.out
    have sw9 := SZw9.out
    have sw10 := SZw10.out
    have hA := (Below.refl w10.heap.size w10).alloc (Nat.le_refl _) (.cells #[.slice aa (backV c.es).length (backV c.es).length, .slice ba (backV c.es).length (backV c.es).length, .slice xa (backV c.es).length (backV c.es).length, .slice la (joinG c e).length (joinG c e).length, .slice ma (joinG c e).length (joinG c e).length] 37)
    have sw := SZw1.out
    have R1 := Lib.hid ((R1.out.kept hA).only ho (by omega))
    have E1 := Lib.hid (show EBox w14 (w.heap.size + 1) e from ho.row (row_kept E1.out hA) (by omega))
    have RL := Lib.hid ((RL.out.kept hA).only ho (by omega))
    have RM1 := Lib.hid ((RM1.out.kept hA).only ho (by omega))
    have RM2 := Lib.hid ((RM2.out.kept hA).only ho (by omega))
    have HML := Lib.hid ((HML.out.kept hA).only ho (fun k hk => by have := HRL.out k hk; simp only [Rn, World.size_alloc] at this; omega) (fun e he k hk => by have := HRW.out e he k hk; simp only [Rn, World.size_alloc] at this; omega))
    have HN1 := Lib.hid ((HN1.out.kept hA).only ho (fun k hk => by have := HRN1.out k hk; (try simp only [World.size_alloc] at this); omega))
    have HN2 := Lib.hid ((HN2.out.kept hA).only ho (fun k hk => by have := HRN2.out k hk; (try simp only [World.size_alloc] at this); omega))
    have HBw14 := Lib.hid ((HBw10.out.alloc HBw10.out.size (.cells #[.slice aa (backV c.es).length (backV c.es).length, .slice ba (backV c.es).length (backV c.es).length, .slice xa (backV c.es).length (backV c.es).length, .slice la (joinG c e).length (joinG c e).length, .slice ma (joinG c e).length (joinG c e).length] 37)).trans (ho.below (HBw10.out.alloc HBw10.out.size (.cells #[.slice aa (backV c.es).length (backV c.es).length, .slice ba (backV c.es).length (backV c.es).length, .slice xa (backV c.es).length (backV c.es).length, .slice la (joinG c e).length (joinG c e).length, .slice ma (joinG c e).length (joinG c e).length] 37)).size (fun k hk => by omega)))
    have SZw14 := Lib.hid (show w10.heap.size + 1 ≤ w14.heap.size from by have := ho.size; simpa using this)
    clear ho hA sw
    clear sw2 sw3 sw4 sw5 sw6 sw7 sw8 sw9 sw10
    have HP := Lib.hid (apart_of (ls := [(m1.ea, m1.es.length), (m2.ea, m2.es.length)]) (fun i => ([w7.heap.size + 1, w8.heap.size, w9.heap.size] : List Nat).getD i 0) (fun i hi => by
      have sw2 := SZw2.out
      have sw3 := SZw3.out
      have sw4 := SZw4.out
      have sw5 := SZw5.out
      have sw6 := SZw6.out
      have sw7 := SZw7.out
      have sw8 := SZw8.out
      have sw9 := SZw9.out
      have sw10 := SZw10.out
      have sw14 := SZw14.out
      match i, hi with
      | 0, _ => show w7.heap.size + 1 ≤ w8.heap.size; omega
      | 1, _ => show w8.heap.size ≤ w9.heap.size; omega) (fun i hi g hg => by
      have sw2 := SZw2.out
      have sw3 := SZw3.out
      have sw4 := SZw4.out
      have sw5 := SZw5.out
      have sw6 := SZw6.out
      have sw7 := SZw7.out
      have sw8 := SZw8.out
      have sw9 := SZw9.out
      have sw10 := SZw10.out
      have sw14 := SZw14.out
      match i, hi, hg with
      | 0, _, hg => have hh := HRN1.out g (own_at hg); show w7.heap.size + 1 ≤ g ∧ g < w8.heap.size; (try simp only [World.size_alloc] at hh); omega
      | 1, _, hg => have hh := HRN2.out g (own_at hg); show w8.heap.size ≤ g ∧ g < w9.heap.size; (try simp only [World.size_alloc] at hh); omega))
    have HMR := Lib.hid (show ∀ i (h : i < ([(m1.ea, m1.es.length), (m2.ea, m2.es.length)] : List (Option Addr × Nat)).length), MR (fun k => (w7.heap.size + 1 ≤ k ∧ k < w8.heap.size) ∨ (w8.heap.size + 1 ≤ k ∧ k < w9.heap.size)) 44 5 (w14.alloc (.cells #[.slice m1.ea m1.es.length m1.ec, .slice m2.ea m2.es.length m2.ec] 23)) ([(m1.ea, m1.es.length), (m2.ea, m2.es.length)] : List (Option Addr × Nat))[i] i 0 from fun i hi => by
      match i, hi with
      | 0, _ => exact MR.of_owns (owns_below (B := 0) HN1.out.row ((Below.refl _ _).alloc (Nat.le_refl _) (.cells #[.slice m1.ea m1.es.length m1.ec, .slice m2.ea m2.es.length m2.ec] 23))) (fun k hk => by have hh := HRN1.out k hk; (try simp only [World.size_alloc] at hh); have sw2 := SZw2.out; have sw3 := SZw3.out; have sw4 := SZw4.out; have sw5 := SZw5.out; have sw6 := SZw6.out; have sw7 := SZw7.out; have sw8 := SZw8.out; have sw9 := SZw9.out; have sw10 := SZw10.out; have sw14 := SZw14.out; omega)
      | 1, _ => exact MR.of_owns (owns_below (B := 0) HN2.out.row ((Below.refl _ _).alloc (Nat.le_refl _) (.cells #[.slice m1.ea m1.es.length m1.ec, .slice m2.ea m2.es.length m2.ec] 23))) (fun k hk => by have hh := HRN2.out k hk; (try simp only [World.size_alloc] at hh); have sw2 := SZw2.out; have sw3 := SZw3.out; have sw4 := SZw4.out; have sw5 := SZw5.out; have sw6 := SZw6.out; have sw7 := SZw7.out; have sw8 := SZw8.out; have sw9 := SZw9.out; have sw10 := SZw10.out; have sw14 := SZw14.out; omega))
    have HBD := Lib.hid (show ∀ r ∈ ([(m1.ea, m1.es.length), (m2.ea, m2.es.length)] : List (Option Addr × Nat)), r.2 ≤ 2513169434843 - 100 from fun r hr => by
      have h1 := HN1.out.mx
      have h2 := HN2.out.mx
      simp only [List.mem_cons, List.not_mem_nil, or_false] at hr
      rcases hr with rfl | rfl <;> simp only <;> omega)
    have HGA := Lib.hid (show (w14.alloc (.cells #[.slice m1.ea m1.es.length m1.ec, .slice m2.ea m2.es.length m2.ec] 23)).heap[w14.heap.size]? = some (.cells #[.slice m1.ea m1.es.length m1.es.length, .slice m2.ea m2.es.length m2.es.length] 23) from by have h := alloc_at (w := w14) (o := (.cells #[.slice m1.ea m1.es.length m1.ec, .slice m2.ea m2.es.length m2.ec] 23)) rfl; rw [h, HN1.out.full, HN2.out.full])
    have K38 := Lib.hid (show Calls Try.prog 38 #[.slice (some ⟨w14.heap.size, 0, none⟩) 2 2] (w14.alloc (.cells #[.slice m1.ea m1.es.length m1.ec, .slice m2.ea m2.es.length m2.ec] 23)) _ from markE_any (fun k => (w7.heap.size + 1 ≤ k ∧ k < w8.heap.size) ∨ (w8.heap.size + 1 ≤ k ∧ k < w9.heap.size)) [(m1.ea, m1.es.length), (m2.ea, m2.es.length)] w14.heap.size (w14.alloc (.cells #[.slice m1.ea m1.es.length m1.ec, .slice m2.ea m2.es.length m2.ec] 23)) ⟨by show 0 < 2; omega, by show 2 ≤ 8; omega⟩ HBD.out HGA.out HMR.out HP.out)
    clear HMR HP HBD HGA
    have p10 : w14.cell? ⟨w8.heap.size, 10, none⟩ = some (.slice m1.ea m1.es.length m1.ec) := RM1.out.cells.2.2.2.2.2.2.2.2.2.2
    have q10 : w14.cell? ⟨w9.heap.size, 10, none⟩ = some (.slice m2.ea m2.es.length m2.ec) := RM2.out.cells.2.2.2.2.2.2.2.2.2.2
    go_wp2_with fail
    refine K38.out.mono ?_
    rintro r0 w15 ⟨rfl, ho⟩
    clear K38 p10 q10
    have sw2 := SZw2.out
    have sw3 := SZw3.out
    have sw4 := SZw4.out
    have sw5 := SZw5.out
    have sw6 := SZw6.out
    have sw7 := SZw7.out
    have sw8 := SZw8.out
    have sw9 := SZw9.out
    have sw10 := SZw10.out
    have sw14 := SZw14.out
    have hA := (Below.refl w14.heap.size w14).alloc (Nat.le_refl _) (.cells #[.slice m1.ea m1.es.length m1.ec, .slice m2.ea m2.es.length m2.ec] 23)
    have sw := SZw1.out
    have R1 := Lib.hid ((R1.out.kept hA).only ho (by omega))
    have RL := Lib.hid ((RL.out.kept hA).only ho (by omega))
    have HML := Lib.hid ((HML.out.kept hA).only ho (fun k hk => by have := HRL.out k hk; simp only [Rn, World.size_alloc] at this; omega) (fun e he k hk => by have := HRW.out e he k hk; simp only [Rn, World.size_alloc] at this; omega))
    have HBw15 := Lib.hid ((HBw14.out.alloc HBw14.out.size (.cells #[.slice m1.ea m1.es.length m1.ec, .slice m2.ea m2.es.length m2.ec] 23)).trans (ho.below (HBw14.out.alloc HBw14.out.size (.cells #[.slice m1.ea m1.es.length m1.ec, .slice m2.ea m2.es.length m2.ec] 23)).size (fun k hk => by omega)))
    clear ho hA sw
    clear sw2 sw3 sw4 sw5 sw6 sw7 sw8 sw9 sw10 sw14
    clear E1 RM1 RM2 RD RD2 HN1 HN2 HA HB HX HL HM HD HD1 HD2 HTL SZw1 HBw1 SZw2 HBw2 SZw3 HBw3 SZw4 HBw4 SZw5 HBw5 SZw6 HBw6 SZw7 HBw7 SZw8 HBw8 SZw9 HBw9 SZw10 HBw10 SZw14 HBw14
    have KL := Lib.hid (fun V (h : Below w15.heap.size w15 V) => back_any l V (HML.out.kept h).ok)
    rw [backV_d (con_es HLD.out)] at KL
    have KC := Lib.hid (fun V (h : Below w15.heap.size w15 V) => back_any c V (HC.out.kept (HBw15.out.trans (h.mono HBw15.out.size))))
    have K15 := Lib.hid (fun V (h : Below w15.heap.size w15 V) => kept_true l c _ V (HML.out.kept h) (HC.out.kept (HBw15.out.trans (h.mono HBw15.out.size))) HLD.out)
    unfold Con.agg at KL KC K15
    have b0 := R1.out
    have d0 := RL.out
    have hd0 : Below w15.heap.size w15 w15.drew := below_drawn (Below.refl _ _) _
    go_wp2_with fail
    go_region_held3 (fun V => V.cell? ⟨w.heap.size, 0, none⟩ = some (.int .i64 c.num) ∧ V.cell? ⟨w.heap.size, 1, none⟩ = some (.int .i64 c.kind) ∧ V.cell? ⟨w.heap.size, 2, none⟩ = some (.int .i64 c.by') ∧ V.cell? ⟨w.heap.size, 3, none⟩ = some (.int .i64 c.dl) ∧ V.cell? ⟨w.heap.size, 4, none⟩ = some (.int .i64 c.to) ∧ V.cell? ⟨w.heap.size, 5, none⟩ = some (.int .i64 c.want) ∧ V.cell? ⟨w.heap.size, 6, none⟩ = some (.int .u64 c.price) ∧ V.cell? ⟨w.heap.size, 7, none⟩ = some (.int .u64 c.reserve) ∧ V.cell? ⟨w.heap.size, 8, none⟩ = some (.int .u64 c.step) ∧ V.cell? ⟨w.heap.size, 9, none⟩ = some (.int .i64 c.of') ∧ V.cell? ⟨w.heap.size, 10, none⟩ = some (.slice c.ea c.es.length c.ec) ∧ V.cell? ⟨w2.heap.size, 0, none⟩ = some (.int .i64 l.num) ∧ V.cell? ⟨w2.heap.size, 1, none⟩ = some (.int .i64 l.kind) ∧ V.cell? ⟨w2.heap.size, 2, none⟩ = some (.int .i64 l.by') ∧ V.cell? ⟨w2.heap.size, 3, none⟩ = some (.int .i64 l.dl) ∧ V.cell? ⟨w2.heap.size, 4, none⟩ = some (.int .i64 l.to) ∧ V.cell? ⟨w2.heap.size, 5, none⟩ = some (.int .i64 l.want) ∧ V.cell? ⟨w2.heap.size, 6, none⟩ = some (.int .u64 l.price) ∧ V.cell? ⟨w2.heap.size, 7, none⟩ = some (.int .u64 l.reserve) ∧ V.cell? ⟨w2.heap.size, 8, none⟩ = some (.int .u64 l.step) ∧ V.cell? ⟨w2.heap.size, 9, none⟩ = some (.int .i64 l.of') ∧ V.cell? ⟨w2.heap.size, 10, none⟩ = some (.slice l.ea l.es.length l.ec)) ((first | with_reducible assumption | exact two_drew b0 d0 | with_reducible exact two_cells b1 d1 | with_reducible exact two_cells b2 d2 | with_reducible exact two_cells b3 d3 | with_reducible exact two_cells b4 d4 | with_reducible exact two_cells b5 d5 | with_reducible exact two_cells b6 d6))
      ((first
        | (go_at_call 15; with_reducible refine (K15.out _ hd0).mono ?_; rintro r0 y1 ⟨rfl, hy⟩; have hz1 := below_of_drew hy; have b1 := b0.kept hz1; have d1 := d0.kept hz1)
        | (go_at_call 19; with_reducible refine (KL.out _ hz1).mono ?_; rintro r0 y2 ⟨ua, uc, rfl, hu, hun, hy2⟩; have hz2 := hz1.trans (hy2.mono hz1.size); have b2 := b1.kept hy2; have d2 := d1.kept hy2)
        | (go_at_call 19; with_reducible refine (KC.out _ hz2).mono ?_; rintro r0 y3 ⟨va, vc, rfl, hv, hvn, hy3⟩; have hz3 := hz2.trans (hy3.mono hz2.size); have b3 := b2.kept hy3; have d3 := d2.kept hy3)
        | (go_at_call 19; with_reducible refine (KC.out _ hz1).mono ?_; rintro r0 y4 ⟨va, vc, rfl, hv, hvn, hy4⟩; have hz4 := hz1.trans (hy4.mono hz1.size); have b4 := b1.kept hy4; have d4 := d1.kept hy4)
        | (go_at_call 19; with_reducible refine (KL.out _ hz4).mono ?_; rintro r0 y5 ⟨ua, uc, rfl, hu, hun, hy5⟩; have hz5 := hz4.trans (hy5.mono hz4.size); have b5 := b4.kept hy5; have d5 := d4.kept hy5)
        | (go_at_call 22; with_reducible refine (gifts_true ua va _ _ _ _ (Nat.le_trans HGB.out (by decide)) ((sl_owns hu).kept hy3) (sl_owns hv)).mono ?_; rintro r0 y6 ⟨rfl, hq⟩; have hy6 := hq.below y3.heap.size; have hz6 := hz3.trans (hy6.mono hz3.size); have b6 := b3.kept hy6; have d6 := d3.kept hy6)
        | (go_at_call 22; with_reducible refine (gifts_true ua va _ _ _ _ (Nat.le_trans HGB.out (by decide)) (sl_owns hu) ((sl_owns hv).kept hy5)).mono ?_; rintro r0 y6 ⟨rfl, hq⟩; have hy6 := hq.below y5.heap.size; have hz6 := hz5.trans (hy6.mono hz5.size); have b6 := b5.kept hy6; have d6 := d5.kept hy6)))
    go_wp2
    all_goals go_ret
    all_goals exact ⟨rfl, HBw15.out.trans (hz6.mono HBw15.out.size)⟩
theorem own : ownKnob Try.prog.godebug = none := by kernel_rfl
theorem laidOut : laidOutB Try.prog = true := by kernel_rfl
set_option maxRecDepth 100000 in
theorem lifted (os : Os) (started : os.Started) (H : Type) (enc : TypeId × Value → H) :
    ReturnsInHanded {} Try.checked os 9 .any (Rows.tradeOwnSpec.pre6 enc Try.prog Try.f9 Rows.tradeOwnRow.domain false) (Rows.tradeOwnSpec.post enc Try.prog Try.f9 false true false false) := by
  refine returnsInHanded_of_change_sized (C := Try.checked) own started (by kernel_rfl) Try.func9
    (ChangeSpec.witness6 (enc := enc) (C := Try.checked) false ⟨#[], #[.agg #[.int .i64 0, .int .i64 0, .int .i64 0, .int .i64 0, .int .i64 0, .int .i64 0, .int .u64 0, .int .u64 0, .int .u64 0, .int .i64 0, .slice none 0 0], .agg #[.int .i64 0, .int .i64 0, .int .u64 0, .int .u64 0, .slice none 0 0]], []⟩ 8 (by kernel_rfl) (by kernel_rfl) (by kernel_rfl) (by kernel_rfl)) ?_
  intro W base args ds gs before hval0 hW hcnd hsz0 _
  have hsz : (DataW.weightsEach Try.prog (Try.f9.params.toList ++ Rows.tradeOwnSpec.plain.varTypes Try.prog) (ds ++ gs)).all (· ≤ reachBytes) = true := hsz0
  clear hsz0
  have hval : ∀ (j : Nat) t v, Try.f9.params[j]? = some t → args[j]? = some v → Value.okWide Try.prog W .any base t v := hval0
  have hW' := hW
  obtain ⟨p, q, hA0, hV, rfl, hfz, hnd⟩ := hW
  have hA : DataW.TrodAll enc Try.prog W 0 (fun _ => true) true Try.f9.params.toList args.toList ds p := hA0
  rw [Try.params9] at hA hval hsz
  obtain ⟨v0, vs0, d0, ds0, p0, q0, hargs, rfl, rfl, h0, r0⟩ := trodAll_cons hA
  obtain ⟨v1, vs1, d1, ds1, p1, q1, rfl, rfl, rfl, h1, r1⟩ := trodAll_cons r0
  obtain ⟨rfl, rfl, rfl⟩ := trodAll_nil r1
  obtain rfl : args = #[v0, v1] := by cases args; simp_all
  obtain ⟨rfl, rfl⟩ := trodVars_none hV
  have k0 := h0
  have lt0 : ∀ x ∈ p0, x.block < W.heap.size := by obtain ⟨m, hm⟩ := k0; exact DataW.trod_lt m _ _ _ hm
  obtain ⟨c0, rfl, n0⟩ := open_con (hval 0 25 v0 rfl rfl) h0 hsz (j := 0) rfl rfl
  have k1 := h1
  have lt1 : ∀ x ∈ p1, x.block < W.heap.size := by obtain ⟨m, hm⟩ := k1; exact DataW.trod_lt m _ _ _ hm
  obtain ⟨c1, rfl, n1⟩ := open_ent (hval 1 44 v1 rfl rfl) h1 hsz (j := 1) rfl rfl
  clear hA0 hval0
  refine (walk c0 c1 W n0 n1).mono fun e W' ⟨he, bel⟩ => ?_
  subst he
  exact ⟨_, rfl, _, _, _, [], _, [], hW', trodAll_mk1 (shut_bool Try.underlying4 _), (trodAll_cons_mk (Below.trod laidOut (by kernel_rfl) (of_decide_eq_true (by kernel_rfl)) k0 bel lt0) (trodAll_cons_mk (Below.trod laidOut (by kernel_rfl) (of_decide_eq_true (by kernel_rfl)) k1 bel lt1) trodAll_mk0)), rfl, bel.frame _, fun h => by cases h⟩
theorem over : Rows.tradeOwnRow.holds Try.pinned (OpenSpec.ofChange Rows.tradeOwnSpec) :=
  OpenClaim.holds_of_wide 9 Try.f9 rfl rfl rfl rfl rfl rfl rfl ⟨rfl, rfl, rfl, rfl, rfl⟩ rfl rfl rfl rfl rfl (by kernel_rfl) Try.func9 (by kernel_rfl)
    (of_decide_eq_true (by kernel_rfl)) (by unfold Func.isWrapper; first | (rw [if_pos (by decide +kernel)]; kernel_rfl) | (rw [if_neg (by decide +kernel)]; exact ⟨rfl, rfl⟩))
    (fun os started H enc _ => lifted os started H enc)
theorem proved : Rows.TradeOwnSaid := over
#print axioms proved
end Go.Proofs.Ytiafhgcnjgpeaaa.lawTradeOwn
