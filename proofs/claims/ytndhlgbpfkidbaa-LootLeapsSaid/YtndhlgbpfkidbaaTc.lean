/-
  Layer 6: Make of the weights three and one.
-/
import Derived.Test.YtndhlgbpfkidbaaTb
import Derived.Test.YtndhlgbpfkidbaaRPt
namespace Go.Proofs.Ytndhlgbpfkidbaa
open Go.RowKit Go.K
set_option linter.unusedVariables false
set_option linter.unusedSimpArgs false
def l31 : List Nat := [1077936128, 1065353216]
theorem tot31 : n03.totP l31 = 1082130432 := by decide +kernel
theorem log31 : (n03.sS l31).natAbs.log2 ≤ 270 := by decide +kernel
theorem fin31 : ∀ x ∈ l31, x < 4294967296 ∧ n03.rg x < 2139095040 := by decide +kernel
theorem div3 : n03.opW (Ieee.single.div 1077936128 1082130432) = 1061158912 := by decide +kernel
theorem div1 : n03.opW (Ieee.single.div 1065353216 1082130432) = 1048576000 := by decide +kernel
theorem mul3 : n03.opW (Ieee.single.mul 1061158912 1317011456) = 1312817152 := by decide +kernel
theorem mul1 : n03.opW (Ieee.single.mul 1048576000 1317011456) = 1300234240 := by decide +kernel
theorem rnd3 : n03.rndW 1312817152 4 = 1312817152 := by decide +kernel
theorem rnd1 : n03.rndW 1300234240 4 = 1300234240 := by decide +kernel
theorem int3 : (if n03.okI 1312817152 then n03.ivV 1312817152 else 0) = 805306368 ∧ (if n03.okI 1312817152 then (0 : Int) else 2) = 0 := by decide +kernel
theorem int1 : (if n03.okI 1300234240 then n03.ivV 1300234240 else 0) = 268435456 ∧ (if n03.okI 1300234240 then (0 : Int) else 2) = 0 := by decide +kernel
theorem kind4 : n03.kindW 1082130432 = 5 := by decide +kernel
theorem gt4 : (FloatKind.f32.format.order 1082130432 0 == some Ordering.gt) = true := by decide +kernel
theorem zero96 : Try.zeroCells96.size = 770 := by kernel_rfl
theorem zero96a : Try.zeroCells96[1]? = some (.int .i64 0) ∧ Try.zeroCells96[2]? = some (.int .i64 0) ∧ Try.zeroCells96[3]? = some (.int .i64 0) := by refine ⟨?_, ?_, ?_⟩ <;> kernel_rfl
def tabJ : Nat → Nat → Option Value
  | 0 => tabF 2 0 0 0
  | 1 => tabF 2 805306368 805306368 0
  | _ => tF
set_option maxRecDepth 100000 in
set_option maxHeartbeats 4000000 in
theorem make_any (b cap : Nat) (w : World) (hs : Sl w (some ⟨b, 0, none⟩) (n03.fv l31)) :
    Calls Try.prog 21 #[.slice (some ⟨b, 0, none⟩) 2 cap] w fun r w' => ∃ g, r = .returned (.tuple #[.pointer (some ⟨g, 0, none⟩), .int .i64 0]) ∧ Cl w' g 96 770 tF ∧ Below w.heap.size w w' := by
  have HS := Lib.hid hs
  have KT := Lib.hid (n03.ptotal_fin l31 (some ⟨b, 0, none⟩) cap w (by decide) (by decide) fin31 hs log31)
  clear hs
  go_enter Try.func21, Try.ntmps21
  go_wp2_with fail
  refine KT.out.mono ?_
  rintro r0 w1 ⟨rfl, hb1⟩
  rw [tot31]
  have HB1 := Lib.hid hb1
  clear hb1 KT
  have hgt := gt4
  go_wp2_with fail
  refine (n03.kind_any 1082130432 (by decide) _).mono ?_
  rintro r0 w2 ⟨rfl, rfl⟩
  rw [kind4]
  clear hgt
  go_upto_region 8 with fail
  obtain ⟨g, hg⟩ : ∃ g, g = w1.heap.size := ⟨_, rfl⟩
  rw [← hg]
  have HGE := Lib.hid (show w.heap.size ≤ g from by rw [hg]; exact HB1.out.size)
  refine wp_world (fun W => Cl W g 96 770 (tabJ 0) ∧ Below w.heap.size w W) ⟨⟨_, alloc_at hg, by rw [Array.size_setIfInBounds]; exact zero96, fun k v e => ?_⟩, HB1.out.alloc HB1.out.size _⟩ ?_
  · rw [Array.getElem?_setIfInBounds]
    match k, e with
    | 0, e => rw [if_pos rfl, if_pos (by rw [zero96]; decide)]; exact e
    | 1, e => rw [if_neg (by decide), zero96a.1]; exact e
    | 2, e => rw [if_neg (by decide), zero96a.2.1]; exact e
    | 3, e => rw [if_neg (by decide), zero96a.2.2]; exact e
    | k + 4, e => cases e
  rintro W0 ⟨hc, hb⟩
  have HC0 := Lib.hid (And.intro hc hb)
  clear hc hb hg
  go_wp2
  go_loopw [6, 7, 8, 28] (fun s6 s7 s8 i V => ∃ j : Nat, j ≤ 2 ∧ i = .int .i64 j ∧ Cl V g 96 770 (tabJ j) ∧ Below w.heap.size w V) (fun _ _ _ i _ => 2 - (intOf i).toNat)
  case atStart => exact ⟨0, by omega, rfl, HC0.out⟩
  case round =>
    clear HC0
    obtain ⟨j, hj, rfl, hc, hb⟩ := hrel
    have HC := Lib.hid hc
    have HB := Lib.hid hb
    clear hc hb
    by_cases hlt : j < 2
    · have hj2 : j = 0 ∨ j = 1 := by omega
      clear hj hlt
      rcases hj2 with rfl | rfl
      · obtain ⟨b', o', e1, zw0⟩ := n03.fv_at (HS.out.kept HB.out) 0 (by decide)
        cases e1
        have zw : wr.cell? ⟨b, 0, none⟩ = some (.float .f32 1077936128) := zw0
        clear zw0
        have hge : FloatKind.f32.format.order 1077936128 0 = some Ordering.gt := by decide +kernel
        go_wp2_with fail
        refine (n03.pdiv_any 1077936128 1082130432 wr).mono ?_
        rintro r0 w2 ⟨rfl, hq2⟩
        rw [div3]
        have HQ2 := Lib.hid hq2
        clear hq2 zw hge
        go_wp2_with fail
        refine (n03.pmul_any 1061158912 1317011456 w2).mono ?_
        rintro r0 w3 ⟨rfl, hq3⟩
        rw [mul3]
        have HB3 := Lib.hid (show Below wr.heap.size wr w3 from (HQ2.out.below wr.heap.size).trans (hq3.below wr.heap.size))
        clear hq3
        have HC3 := Lib.hid (HC.out.kept HB3.out)
        have HX := Lib.hid (fun V (h : Below w3.heap.size w3 V) => show V.cell? ⟨g, 2, none⟩ = some (.int .i64 0) ∧ V.frozen? ⟨g, 2, none⟩ = false from ⟨(HC3.out.kept h).cell (k := 2) rfl, (HC3.out.kept h).frozen 2⟩)
        have HT := Lib.hid (fun V (h : Below w3.heap.size w3 V) (v : Value) => show (V.setCell ⟨g, 2, none⟩ v).cell? ⟨g, 0, none⟩ = some (.int .i64 2) from ((HC3.out.kept h).setC (k := 2) (by decide) v).cell (k := 0) rfl)
        have HD0 := Lib.hid (show Below w3.heap.size w3 w3.drew from below_drawn (Below.refl _ _) _)
        have z0 := HC3.out.cell (k := 0) (v := .int .i64 2) rfl
        go_upto_region 13 with fail
        go_region_held3 (fun V => V.cell? ⟨g, 0, none⟩ = some (.int .i64 2)) (first | assumption | exact HT.out _ hb5 _ | go_keep)
          ((first
            | (go_at_call 46
               (with_reducible refine (n03.prnd_any 1312817152 4 (by decide) _).mono ?_)
               rintro e5 w5 ⟨rfl, hb5⟩
               rw [rnd3]
               have hb5 := HD0.out.trans hb5
               have z5 := below_cell hb5 z0
               obtain ⟨x5, f5⟩ := HX.out _ hb5)
            | (go_at_call 45
               (with_reducible refine (n03.pint_any 1312817152 (by decide) _).mono ?_)
               rintro e6 w6 ⟨rfl, rfl⟩
               rw [int3.1, int3.2])))
        go_upto_region 14 with fail
        refine wp_world (fun W => Cl W g 96 770 (tabF 2 0 805306368 0) ∧ Below w.heap.size w W) ⟨((HC3.out.kept hb5).setC (k := 2) (by decide) _).mono (fun q u e => ?_), ?_⟩ ?_
        · match q, e with
          | 0, e => exact e
          | 1, e => exact e
          | 2, e => exact e
          | 3, e => exact e
          | q + 4, e => cases e
        · have hb := (HB.out.trans (HB3.out.mono HB.out.size)).trans (hb5.mono (HB.out.trans (HB3.out.mono HB.out.size)).size)
          exact hb.trans (only_set.below hb.size (fun k hk => by have := HGE.out; omega))
        clear hb5 z5 x5 f5 z0 HX HT HD0 HC3 HB3
        rintro W1 ⟨hc1, hb1⟩
        have HC1 := Lib.hid (And.intro hc1 hb1)
        have z1 := hc1.cell (k := 1) (v := .int .i64 0) rfl
        have zc := hc1.cell (k := 2) (v := .int .i64 805306368) rfl
        have f1 := hc1.frozen 1
        clear hc1 hb1
        go_still_tail 13, (by kernel_rfl)
        go_upto_region 15 with fail
        clear z1 zc f1
        refine wp_world (fun W => Cl W g 96 770 (tabJ (0 + 1)) ∧ Below w.heap.size w W) ?_ ?_
        · refine ⟨(Cl.kept ((HC1.out.1.setC (k := 1) (by decide) _).mono (fun q u e => ?_)) (below_drawn (Below.refl _ _) _)), ?_⟩
          · match q, e with
            | 0, e => exact e
            | 1, e => exact e
            | 2, e => exact e
            | 3, e => exact e
            | q + 4, e => cases e
          · exact below_drawn (HC1.out.2.trans (only_set.below HC1.out.2.size (fun k hk => by have := HGE.out; omega))) _
        rintro W2 ⟨hc2, hb2⟩
        have HF := Lib.hid (And.intro hc2 hb2)
        clear hc2 hb2 HC1
        go_wp2
        go_roundw
        case rel => exact ⟨0 + 1, by decide, by go_num, HF.out⟩
        case measure => simp [intOf]
      · obtain ⟨b', o', e1, zw0⟩ := n03.fv_at (HS.out.kept HB.out) 1 (by decide)
        cases e1
        have zw : wr.cell? ⟨b, 1, none⟩ = some (.float .f32 1065353216) := zw0
        clear zw0
        have hge : FloatKind.f32.format.order 1065353216 0 = some Ordering.gt := by decide +kernel
        go_wp2_with fail
        refine (n03.pdiv_any 1065353216 1082130432 wr).mono ?_
        rintro r0 w2 ⟨rfl, hq2⟩
        rw [div1]
        have HQ2 := Lib.hid hq2
        clear hq2 zw hge
        go_wp2_with fail
        refine (n03.pmul_any 1048576000 1317011456 w2).mono ?_
        rintro r0 w3 ⟨rfl, hq3⟩
        rw [mul1]
        have HB3 := Lib.hid (show Below wr.heap.size wr w3 from (HQ2.out.below wr.heap.size).trans (hq3.below wr.heap.size))
        clear hq3
        have HC3 := Lib.hid (HC.out.kept HB3.out)
        have HX := Lib.hid (fun V (h : Below w3.heap.size w3 V) => show V.cell? ⟨g, 3, none⟩ = some (.int .i64 0) ∧ V.frozen? ⟨g, 3, none⟩ = false from ⟨(HC3.out.kept h).cell (k := 3) rfl, (HC3.out.kept h).frozen 3⟩)
        have HT := Lib.hid (fun V (h : Below w3.heap.size w3 V) (v : Value) => show (V.setCell ⟨g, 3, none⟩ v).cell? ⟨g, 0, none⟩ = some (.int .i64 2) from ((HC3.out.kept h).setC (k := 3) (by decide) v).cell (k := 0) rfl)
        have HD0 := Lib.hid (show Below w3.heap.size w3 w3.drew from below_drawn (Below.refl _ _) _)
        have z0 := HC3.out.cell (k := 0) (v := .int .i64 2) rfl
        go_upto_region 13 with fail
        go_region_held3 (fun V => V.cell? ⟨g, 0, none⟩ = some (.int .i64 2)) (first | assumption | exact HT.out _ hb5 _ | go_keep)
          ((first
            | (go_at_call 46
               (with_reducible refine (n03.prnd_any 1300234240 4 (by decide) _).mono ?_)
               rintro e5 w5 ⟨rfl, hb5⟩
               rw [rnd1]
               have hb5 := HD0.out.trans hb5
               have z5 := below_cell hb5 z0
               obtain ⟨x5, f5⟩ := HX.out _ hb5)
            | (go_at_call 45
               (with_reducible refine (n03.pint_any 1300234240 (by decide) _).mono ?_)
               rintro e6 w6 ⟨rfl, rfl⟩
               rw [int1.1, int1.2])))
        go_upto_region 14 with fail
        refine wp_world (fun W => Cl W g 96 770 (tabF 2 805306368 805306368 268435456) ∧ Below w.heap.size w W) ⟨((HC3.out.kept hb5).setC (k := 3) (by decide) _).mono (fun q u e => ?_), ?_⟩ ?_
        · match q, e with
          | 0, e => exact e
          | 1, e => exact e
          | 2, e => exact e
          | 3, e => exact e
          | q + 4, e => cases e
        · have hb := (HB.out.trans (HB3.out.mono HB.out.size)).trans (hb5.mono (HB.out.trans (HB3.out.mono HB.out.size)).size)
          exact hb.trans (only_set.below hb.size (fun k hk => by have := HGE.out; omega))
        clear hb5 z5 x5 f5 z0 HX HT HD0 HC3 HB3
        rintro W1 ⟨hc1, hb1⟩
        have HC1 := Lib.hid (And.intro hc1 hb1)
        have z1 := hc1.cell (k := 1) (v := .int .i64 805306368) rfl
        have zc := hc1.cell (k := 3) (v := .int .i64 268435456) rfl
        have f1 := hc1.frozen 1
        clear hc1 hb1
        go_still_tail 13, (by kernel_rfl)
        go_upto_region 15 with fail
        clear z1 zc f1
        refine wp_world (fun W => Cl W g 96 770 (tabJ (1 + 1)) ∧ Below w.heap.size w W) ?_ ?_
        · refine ⟨(Cl.kept ((HC1.out.1.setC (k := 1) (by decide) _).mono (fun q u e => ?_)) (below_drawn (Below.refl _ _) _)), ?_⟩
          · match q, e with
            | 0, e => exact e
            | 1, e => exact e
            | 2, e => exact e
            | 3, e => exact e
            | q + 4, e => cases e
          · exact below_drawn (HC1.out.2.trans (only_set.below HC1.out.2.size (fun k hk => by have := HGE.out; omega))) _
        rintro W2 ⟨hc2, hb2⟩
        have HF := Lib.hid (And.intro hc2 hb2)
        clear hc2 hb2 HC1
        go_wp2
        go_roundw
        case rel => exact ⟨1 + 1, by decide, by go_num, HF.out⟩
        case measure => simp [intOf]
    · have t0 : decide ((j : Int) < 2) = false := by simp; omega
      obtain rfl : j = 2 := by omega
      clear hj hlt
      have KF := Lib.hid (fill_any g wr HC.out)
      go_wp2_with fail
      refine KF.out.mono ?_
      rintro r0 w3 ⟨rfl, hc3, ho3⟩
      have HF := Lib.hid (show Cl w3 g 96 770 tF ∧ Below w.heap.size w w3 from ⟨hc3, HB.out.trans (ho3.below HB.out.size (fun k hk => by have := HGE.out; omega))⟩)
      clear hc3 ho3
      go_wp2
      go_ret2
      exact ⟨g, rfl, HF.out⟩
end Go.Proofs.Ytndhlgbpfkidbaa
