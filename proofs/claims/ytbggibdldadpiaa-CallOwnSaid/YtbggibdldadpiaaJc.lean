/-
  Layer 19: what pairs gain, as the document adds it up.
-/
import Derived.Test.YtbggibdldadpiaaJb
import Derived.Test.YtbggibdldadpiaaNwv
namespace Go.Proofs.Ytbggibdldadpiaa
open Go.RowKit Go.K
open Go.Stab (swp rot Srt Prm Out)
set_option linter.unusedVariables false
set_option linter.unusedSimpArgs false
theorem lq_U64 (l : List (BitVec 64)) (k : Nat) : ((lq l k : Nat) : Int) = U64 (l.getD k 0) := rfl
theorem pw_bound (z : Int) (h : z.natAbs < 1461501637330902918203684832716283019655932542976) : z.natAbs < Words.pw 900 := n01.pw900_big _ h
/-- A number of 64 bits laid into a new number. -/
theorem set_new (l : List (BitVec 64)) (k : Nat) (W : World) : Calls Try.prog 36 #[.pointer (some ⟨W.heap.size, 0, none⟩), .int .u64 (lq l k : Nat)] (W.alloc (.cells #[.bool false, .slice none 0 0] 73)) fun e w' => e = .returned (.pointer (some ⟨W.heap.size, 0, none⟩)) ∧ n01.IntAt w' W.heap.size (lq l k : Nat) ∧ Below W.heap.size W w' := by
  refine (n01.set64_any W.heap.size (l.getD k 0) _ (n01.isInt_new W)).mono ?_
  rintro e w' ⟨rfl, hg, hi⟩
  exact ⟨rfl, hi, ((Below.refl _ _).alloc (Nat.le_refl _) _).grown hg (by simp) (fun k hk => by cases hk; exact Nat.le_refl _)⟩
set_option maxRecDepth 100000 in
set_option maxHeartbeats 4000000 in
theorem rgain_any (xs ys : List (BitVec 64)) (x y : List Int) (aa ba xa ya : Option Addr) (ca cb cx cy : Nat) (w : World) (hnx : x.length ≤ 17592186043904) (hny : y.length ≤ 17592186043904) (hna : xs.length ≤ 17592186043904) (hnb : ys.length ≤ 17592186043904)
    (ha : Sl w aa (vQ xs)) (hb : Sl w ba (vQ ys)) (hx : Sl w xa (vI x)) (hy : Sl w ya (vI y)) :
    Calls Try.prog 13 #[.slice aa xs.length ca, .slice ba ys.length cb, .slice xa x.length cx, .slice ya y.length cy] w fun r w' =>
      r = .returned (.pointer (some ⟨w.heap.size, 0, none⟩)) ∧ n01.IntAt w' w.heap.size ((gn xs ys (gI x) (gI y) (min x.length y.length) : Nat) : Int) ∧ Below w.heap.size w w' := by
  obtain ⟨n, hn⟩ : ∃ n, n = min x.length y.length := ⟨_, rfl⟩
  rw [← hn]
  obtain ⟨g, hg⟩ : ∃ g, g = w.heap.size := ⟨_, rfl⟩
  have HA := Lib.hid ha
  have HBB := Lib.hid hb
  have HX := Lib.hid hx
  have HY := Lib.hid hy
  have HN := Lib.hid hn
  have H0 := Lib.hid (show n01.IntAt (w.alloc (.cells #[.bool false, .slice none 0 0] 73)) g 0 ∧ Below w.heap.size w (w.alloc (.cells #[.bool false, .slice none 0 0] 73)) by rw [hg]; exact ⟨n01.intAt_zero w, (Below.refl _ _).alloc (Nat.le_refl _) _⟩)
  have HGE := Lib.hid hg
  clear ha hb hx hy hn
  go_enter Try.func13, Try.ntmps13
  go_upto_region 2 with fail
  rw [← hg]
  clear hg
  go_wp2
  go_loopw [10] (fun x10 V => ∃ i : Nat, i ≤ n ∧ x10 = .int .i64 i ∧ n01.IntAt V g ((gn xs ys (gI x) (gI y) i : Nat) : Int) ∧ Below w.heap.size w V) (fun x10 _ => n - (intOf x10).toNat)
  case atStart => exact ⟨0, Nat.zero_le _, rfl, H0.out⟩
  case round =>
    obtain ⟨i, hi, rfl, hz, hbl⟩ := hrel
    have HZ := Lib.hid hz
    have HB := Lib.hid hbl
    clear hz hbl H0
    by_cases lx : i < x.length
    · have t1 : decide ((i : Int) < (x.length : Int)) = true := decide_eq_true (by omega)
      have t1n : decide (i < x.length) = true := decide_eq_true lx
      by_cases ly : i < y.length
      · have t2 : decide ((i : Int) < (y.length : Int)) = true := decide_eq_true (by omega)
        have t2n : decide (i < y.length) = true := decide_eq_true ly
        have HI := Lib.hid (show i < n by have := HN.out; omega)
        have lx' : (i : Int) < (x.length : Int) := by omega
        have ly' : (i : Int) < (y.length : Int) := by omega
        obtain ⟨b1, o1, hxa, z3⟩ := vI_at (HX.out.kept HB.out) i lx
        obtain ⟨b2, o2, hya, z4⟩ := vI_at (HY.out.kept HB.out) i ly
        subst hxa hya
        have w5 : IntKind.i64.wrap ((i : Int) + 1) = ((i + 1 : Nat) : Int) := by rw [IntKind.wrap_i64]; omega
        have HG := Lib.hid (show gn xs ys (gI x) (gI y) (i + 1) = gn xs ys (gI x) (gI y) i + gain1 xs ys (gI x i) (gI y i) from rfl)
        have HGL := Lib.hid (show gn xs ys (gI x) (gI y) i ≤ i * 18446744073709551616 from gn_lt _ _ _ _ _)
        have HAQ := Lib.hid (HA.out.kept HB.out)
        have HBQ := Lib.hid (HBB.out.kept HB.out)
        have HRV := Lib.hid (show gn xs ys (gI x) (gI y) (i + 1) = gn xs ys (gI x) (gI y) (i + 1) from rfl)
        have HLY := Lib.hid ly
        have HIY := Lib.hid (show i < 17592186043904 by omega)
        clear lx ly hi
        generalize hgx : gI x i = a at *
        generalize hgy : gI y i = b at *
        clear hgx hgy
        by_cases c1 : a < 0
        · have s1 : decide (a < 0) = true := decide_eq_true (by omega)
          have HZ1 := Lib.hid (show gain1 xs ys a b = 0 by unfold gain1 okP; rw [if_neg]; simp; try omega)
          have HG2 := Lib.hid (show gn xs ys (gI x) (gI y) (i + 1) = gn xs ys (gI x) (gI y) i by rw [HG.out, HZ1.out]; rfl)
          clear c1
          go_wp2
          go_quiet (fail)
          go_wp2
          go_roundw
          case rel => exact ⟨i + 1, HI.out, by go_num, by rw [HG2.out]; exact HZ.out.kept (Qt.below (⟨_, rfl⟩ : Qt wr _) _), HB.out.trans (Qt.below (⟨_, rfl⟩ : Qt wr _) _)⟩
          case measure => have := HI.out; simp [intOf]; omega
        · have s1 : decide (a < 0) = false := decide_eq_false (by omega)
          obtain ⟨a', rfl⟩ := Int.eq_ofNat_of_zero_le (show 0 ≤ a by omega)
          by_cases c2 : xs.length ≤ a'
          · have s2 : decide ((xs.length : Int) ≤ (a' : Int)) = true := decide_eq_true (by omega)
            have s2n : decide (xs.length ≤ a') = true := decide_eq_true (by omega)
            have HZ1 := Lib.hid (show gain1 xs ys (a' : Int) b = 0 by unfold gain1 okP; rw [if_neg]; simp; try omega)
            have HG2 := Lib.hid (show gn xs ys (gI x) (gI y) (i + 1) = gn xs ys (gI x) (gI y) i by rw [HG.out, HZ1.out]; rfl)
            clear c1 c2
            go_wp2
            go_quiet (fail)
            go_wp2
            go_roundw
            case rel => exact ⟨i + 1, HI.out, by go_num, by rw [HG2.out]; exact HZ.out.kept (Qt.below (⟨_, rfl⟩ : Qt wr _) _), HB.out.trans (Qt.below (⟨_, rfl⟩ : Qt wr _) _)⟩
            case measure => have := HI.out; simp [intOf]; omega
          · have s2 : decide ((xs.length : Int) ≤ (a' : Int)) = false := decide_eq_false (by omega)
            have s2n : decide (xs.length ≤ a') = false := decide_eq_false (by omega)
            by_cases c3 : b < 0
            · have s3 : decide (b < 0) = true := decide_eq_true (by omega)
              have HZ1 := Lib.hid (show gain1 xs ys (a' : Int) b = 0 by unfold gain1 okP; rw [if_neg]; simp; try omega)
              have HG2 := Lib.hid (show gn xs ys (gI x) (gI y) (i + 1) = gn xs ys (gI x) (gI y) i by rw [HG.out, HZ1.out]; rfl)
              clear c1 c2 c3
              go_wp2
              go_quiet (fail)
              go_wp2
              go_roundw
              case rel => exact ⟨i + 1, HI.out, by go_num, by rw [HG2.out]; exact HZ.out.kept (Qt.below (⟨_, rfl⟩ : Qt wr _) _), HB.out.trans (Qt.below (⟨_, rfl⟩ : Qt wr _) _)⟩
              case measure => have := HI.out; simp [intOf]; omega
            · have s3 : decide (b < 0) = false := decide_eq_false (by omega)
              obtain ⟨b', rfl⟩ := Int.eq_ofNat_of_zero_le (show 0 ≤ b by omega)
              by_cases c4 : ys.length ≤ b'
              · have s4 : decide ((ys.length : Int) ≤ (b' : Int)) = true := decide_eq_true (by omega)
                have s4n : decide (ys.length ≤ b') = true := decide_eq_true (by omega)
                have HZ1 := Lib.hid (show gain1 xs ys (a' : Int) (b' : Int) = 0 by unfold gain1 okP; rw [if_neg]; simp; try omega)
                have HG2 := Lib.hid (show gn xs ys (gI x) (gI y) (i + 1) = gn xs ys (gI x) (gI y) i by rw [HG.out, HZ1.out]; rfl)
                clear c1 c2 c3 c4
                go_wp2
                go_quiet (fail)
                go_wp2
                go_roundw
                case rel => exact ⟨i + 1, HI.out, by go_num, by rw [HG2.out]; exact HZ.out.kept (Qt.below (⟨_, rfl⟩ : Qt wr _) _), HB.out.trans (Qt.below (⟨_, rfl⟩ : Qt wr _) _)⟩
                case measure => have := HI.out; simp [intOf]; omega
              · have s4 : decide ((ys.length : Int) ≤ (b' : Int)) = false := decide_eq_false (by omega)
                have s4n : decide (ys.length ≤ b') = false := decide_eq_false (by omega)
                obtain ⟨b3, o3, haa, z5⟩ := vQ_at HAQ.out a' (by omega)
                obtain ⟨b4, o4, hba, z6⟩ := vQ_at HBQ.out b' (by omega)
                subst haa hba
                have l5 : (a' : Int) < (xs.length : Int) := by omega
                have l6 : (b' : Int) < (ys.length : Int) := by omega
                by_cases c5 : lq ys b' < lq xs a'
                · have s5 : decide ((lq ys b' : Int) < (lq xs a' : Int)) = true := decide_eq_true (by omega)
                  have s5n : decide (lq ys b' < lq xs a') = true := decide_eq_true c5
                  have HZ0 := Lib.hid (show gain1 xs ys (a' : Int) (b' : Int) = 0 by unfold gain1 okP; rw [Int.toNat_natCast, Int.toNat_natCast, if_neg]; simp; omega)
                  generalize lq xs a' = va at *
                  generalize lq ys b' = vb at *
                  have HZ1 := HZ0
                  have HG2 := Lib.hid (show gn xs ys (gI x) (gI y) (i + 1) = gn xs ys (gI x) (gI y) i by rw [HG.out, HZ1.out]; rfl)
                  clear c1 c2 c3 c4 c5
                  go_wp2
                  go_quiet (fail)
                  go_wp2
                  go_roundw
                  case rel => exact ⟨i + 1, HI.out, by go_num, by rw [HG2.out]; exact HZ.out.kept (Qt.below (⟨_, rfl⟩ : Qt wr _) _), HB.out.trans (Qt.below (⟨_, rfl⟩ : Qt wr _) _)⟩
                  case measure => have := HI.out; simp [intOf]; omega
                · have s5 : decide ((lq ys b' : Int) < (lq xs a' : Int)) = false := decide_eq_false (by omega)
                  have s5n : decide (lq ys b' < lq xs a') = false := decide_eq_false c5
                  have HZ1 := Lib.hid (show gain1 xs ys (a' : Int) (b' : Int) = lq ys b' - lq xs a' by unfold gain1 okP; rw [Int.toNat_natCast, Int.toNat_natCast, if_pos]; simp; omega)
                  have HVL := Lib.hid (show lq ys b' < 18446744073709551616 ∧ lq xs a' < 18446744073709551616 ∧ lq xs a' ≤ lq ys b' from ⟨lq_lt _ _, lq_lt _ _, by omega⟩)
                  have HSB := Lib.hid (fun W => set_new ys b' W)
                  have HSA := Lib.hid (fun W => set_new xs a' W)
                  have HLA := Lib.hid (show a' < xs.length ∧ b' < ys.length by omega)
                  have y3 := z3
                  have y4 := z4
                  have HCC := Lib.hid (show ∀ V, Below w.heap.size w V → V.cell? ⟨b1, o1 + i, none⟩ = some (.int .i64 (a' : Nat)) ∧ V.cell? ⟨b2, o2 + i, none⟩ = some (.int .i64 (b' : Nat)) ∧ V.cell? ⟨b3, o3 + a', none⟩ = some (.int .u64 (lq xs a' : Nat)) ∧ V.cell? ⟨b4, o4 + b', none⟩ = some (.int .u64 (lq ys b' : Nat)) from fun V hV => by
                    have p3 : (⟨b1, o1 + i, none⟩ : Addr).block < w.heap.size := HX.out.lt (⟨b1, o1, none⟩ : Addr) rfl (vI_ne (k := i) (by have := HI.out; have := HN.out; omega))
                    have p4 : (⟨b2, o2 + i, none⟩ : Addr).block < w.heap.size := HY.out.lt (⟨b2, o2, none⟩ : Addr) rfl (vI_ne (k := i) HLY.out)
                    have p5 : (⟨b3, o3 + a', none⟩ : Addr).block < w.heap.size := HA.out.lt (⟨b3, o3, none⟩ : Addr) rfl (vQ_ne (k := a') HLA.out.1)
                    have p6 : (⟨b4, o4 + b', none⟩ : Addr).block < w.heap.size := HBB.out.lt (⟨b4, o4, none⟩ : Addr) rfl (vQ_ne (k := b') HLA.out.2)
                    have e3 : wr.cell? ⟨b1, o1 + i, none⟩ = w.cell? ⟨b1, o1 + i, none⟩ := HB.out.cell p3
                    have e4 : wr.cell? ⟨b2, o2 + i, none⟩ = w.cell? ⟨b2, o2 + i, none⟩ := HB.out.cell p4
                    have e5 : wr.cell? ⟨b3, o3 + a', none⟩ = w.cell? ⟨b3, o3 + a', none⟩ := HB.out.cell p5
                    have e6 : wr.cell? ⟨b4, o4 + b', none⟩ = w.cell? ⟨b4, o4 + b', none⟩ := HB.out.cell p6
                    exact ⟨(hV.cell p3).trans (e3.symm.trans y3), (hV.cell p4).trans (e4.symm.trans y4), (hV.cell p5).trans (e5.symm.trans z5), (hV.cell p6).trans (e6.symm.trans z6)⟩)
                  clear y3 y4
                  generalize lq xs a' = va at *
                  generalize lq ys b' = vb at *
                  have HG2 := Lib.hid (show ((gn xs ys (gI x) (gI y) (i + 1) : Nat) : Int) = ((gn xs ys (gI x) (gI y) i : Nat) : Int) + (vb : Int) - (va : Int) by have := HVL.out; rw [HG.out, HZ1.out]; omega)
                  have HGB := Lib.hid (show gn xs ys (gI x) (gI y) i < 10000000000000000000000000000000000000000 by have h1 := HGL.out; have h2 := Nat.mul_le_mul_right 18446744073709551616 (show i ≤ 17592186043903 by have := HIY.out; omega); omega)
                  clear c1 c2 c3 c4 c5
                  go_upto_region 5 with fail
                  go_quiet (fail)
                  obtain ⟨W0, hW0⟩ : ∃ W0, W0 = wr.drewN nq := ⟨_, rfl⟩
                  rw [← hW0]
                  have hqt : Qt wr W0 := by rw [hW0]; exact Qt.drewN wr nq
                  have HB0 := Lib.hid (HB.out.trans (hqt.below _))
                  have HZ0 := Lib.hid (HZ.out.kept (hqt.below _))
                  clear hqt hW0 HZ z3 z4 z5 z6
                  have HSZ0 := Lib.hid (show w.heap.size < W0.heap.size by obtain ⟨_, _, _, _, h, _⟩ := HZ0.out; have := lt_row h; have := HGE.out; omega)
                  have HBA := Lib.hid ((Below.refl W0.heap.size W0).alloc (Nat.le_refl _) (.cells #[.bool false, .slice none 0 0] 73))
                  obtain ⟨q1, q2, q3, q4⟩ := HCC.out _ (HB0.out.trans (HBA.out.mono HB0.out.size))
                  go_wp2_with fail
                  refine (HSB.out W0).mono ?_
                  rintro e1 w1 ⟨rfl, hi1, hb1⟩
                  have HI1 := Lib.hid hi1
                  have HB1 := Lib.hid hb1
                  have HZ1' := Lib.hid (HZ0.out.kept hb1)
                  clear hi1 hb1 q1 q2 q3 q4 HBA
                  have K35 := Lib.hid (n01.add_any g g W0.heap.size _ _ w1 HZ1'.out.isInt HZ1'.out HI1.out (pw_bound _ (by have := HGB.out; omega)) (pw_bound _ (by have := HVL.out; omega)))
                  go_wp2_with fail
                  refine K35.out.mono ?_
                  rintro e2 w2 ⟨rfl, hg2, hi2⟩
                  have HI2 := Lib.hid hi2
                  have HB2 := Lib.hid (show Below w.heap.size w w2 from (HB0.out.trans (HB1.out.mono HB0.out.size)).grown hg2 (HB0.out.trans (HB1.out.mono HB0.out.size)).size (fun k hk => by cases hk; exact Nat.le_of_eq HGE.out.symm))
                  clear hg2 hi2 K35 HZ0 HI1 HB1 HZ1' HB0
                  have HSZ2 := Lib.hid (show w.heap.size < w2.heap.size by obtain ⟨_, _, _, _, h, _⟩ := HI2.out; have := lt_row h; have := HGE.out; omega)
                  have HBA := Lib.hid ((Below.refl w2.heap.size w2).alloc (Nat.le_refl _) (.cells #[.bool false, .slice none 0 0] 73))
                  obtain ⟨q1, q2, q3, q4⟩ := HCC.out _ (HB2.out.trans (HBA.out.mono HB2.out.size))
                  go_wp2_with fail
                  refine (HSA.out w2).mono ?_
                  rintro e3 w3 ⟨rfl, hi3, hb3⟩
                  have HI3 := Lib.hid hi3
                  have HB3 := Lib.hid hb3
                  have HZ3 := Lib.hid (HI2.out.kept hb3)
                  clear hi3 hb3 q1 q2 q3 q4 HBA
                  have K37 := Lib.hid (n01.sub_any g g w2.heap.size _ _ w3 HZ3.out.isInt HZ3.out HI3.out (pw_bound _ (by have := HGB.out; have := HVL.out; omega)) (pw_bound _ (by have := HVL.out; omega)) (by have := HSZ2.out; have := HGE.out; omega))
                  go_wp2_with fail
                  refine K37.out.mono ?_
                  rintro e4 w4 ⟨rfl, hg4, hi4⟩
                  have HI4 := Lib.hid (show n01.IntAt w4 g ((gn xs ys (gI x) (gI y) (i + 1) : Nat) : Int) by rw [HG2.out]; exact hi4)
                  have HB4 := Lib.hid (show Below w.heap.size w w4 from (HB2.out.trans (HB3.out.mono HB2.out.size)).grown hg4 (HB2.out.trans (HB3.out.mono HB2.out.size)).size (fun k hk => by cases hk; exact Nat.le_of_eq HGE.out.symm))
                  clear hg4 hi4 K37 HI2 HB2 HI3 HB3 HZ3
                  go_wp2
                  go_roundw
                  case rel => exact ⟨i + 1, HI.out, by go_num, HI4.out, HB4.out⟩
                  case measure => have := HI.out; simp [intOf]; omega
      · have t2 : decide ((i : Int) < (y.length : Int)) = false := decide_eq_false (by omega)
        have t2n : decide (i < y.length) = false := decide_eq_false ly
        have HE := Lib.hid (show i = n by have := HN.out; omega)
        clear lx ly hi
        go_wp2
        go_ret
        exact ⟨by rw [← HGE.out]; rfl, by rw [← HGE.out, ← HE.out]; exact HZ.out, HB.out⟩
    · have t1 : decide ((i : Int) < (x.length : Int)) = false := decide_eq_false (by omega)
      have t1n : decide (i < x.length) = false := decide_eq_false lx
      have HE := Lib.hid (show i = n by have := HN.out; omega)
      clear lx hi
      go_wp2
      go_ret
      exact ⟨by rw [← HGE.out]; rfl, by rw [← HGE.out, ← HE.out]; exact HZ.out, HB.out⟩
end Go.Proofs.Ytbggibdldadpiaa
