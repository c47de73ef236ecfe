/-
  Every product of two numbers of 64 bits, every sum, order and quotient of numbers of 128 bits, every scaling is the document's.
  No condition beyond the statement's own.
-/
import Derived.Test.YtdkfaicmdbhonaaWw
import Derived.Test.YtdkfaicmdbhonaaOpen
import Derived.Test.YtdkfaicmdbhonaaFlat
import Derived.Deep.DeepCutAuto
import Derived.Deep.CutBlock
import Derived.Deep.RegionHeld3
namespace Go.Proofs.Ytdkfaicmdbhonaa.lawCountWides
open Go.RowKit Go.K Go.Words Go.ChangeShapes Go.WideShapes Go.ChangeAt
set_option linter.unusedVariables false
set_option linter.unusedSimpArgs false
set_option maxRecDepth 100000 in
/-- A wide that came in. -/
theorem open_wide {H : Type} {enc : TypeId × Value → H} {W : World} {r : Reach} {b0 : Nat} {v : Value} {d : DataW H} {p : List MemPlace} (hv : Value.okWide Try.prog W r b0 34 v)
    (h : DataW.Trod enc Try.prog W 0 (fun _ => true) true 34 v d p) : ∃ x y : BitVec 64, v = .agg #[.int .u64 (U64 x), .int .u64 (U64 y)] := by
  obtain ⟨cs, rfl, hcs⟩ := okWide_struct Try.underlying34 hv
  obtain ⟨l⟩ := cs
  obtain ⟨fuel, h⟩ := h
  obtain ⟨xs, n', _, hxx, hlen, hxl, hfl⟩ := DataW.trod_struct Try.underlying34 h
  have s34 : Try.prog.cellsOf 34 = 2 := by kernel_rfl
  have s24 : Try.prog.cellsOf 24 = 1 := by kernel_rfl
  have hll : l.length = 2 := by rw [s34] at hcs; simpa using hcs
  have hl : (Value.agg ⟨l⟩).cells.toList = l := rfl
  rw [hl] at hfl
  have hf0 : DataW.trod enc Try.prog W 0 (fun _ => true) true n' 24 ((l.drop 0).take (Try.prog.cellsOf 24)) = xs[0]? := hfl 0 _ rfl
  have hf1 : DataW.trod enc Try.prog W 0 (fun _ => true) true n' 24 ((l.drop 1).take (Try.prog.cellsOf 24)) = xs[1]? := hfl 1 _ rfl
  rw [s24] at hf0 hf1
  have hxl' : xs.length = 2 := hxl
  clear hxl hfl
  match l, hll, xs, hxl' with
  | [v0, v1], _, [y0, y1], _ =>
  obtain ⟨a0, rfl, w0⟩ := trod_int_inv Try.underlying24 hf0
  obtain ⟨a1, rfl, w1⟩ := trod_int_inv Try.underlying24 hf1
  obtain ⟨x, rfl⟩ := u64_of_wf w0
  obtain ⟨y, rfl⟩ := u64_of_wf w1
  exact ⟨x, y, rfl⟩
theorem overV_int (N d : Nat) : ∃ a b c : Int, overV N d = .tuple #[.int .u64 a, .int .u64 b, .int .i64 c] := by
  unfold overV
  split
  · exact ⟨_, _, _, rfl⟩
  · split <;> exact ⟨_, _, _, rfl⟩
theorem wideV_eq (N : Nat) : wideV N = if N < 340282366920938463463374607431768211456 then .tuple #[.int .u64 ((N / 18446744073709551616 : Nat) : Int), .int .u64 ((N % 18446744073709551616 : Nat) : Int), .bool true] else .tuple #[.int .u64 0, .int .u64 0, .bool false] := by
  unfold wideV
  by_cases h : N < 340282366920938463463374607431768211456
  · rw [if_pos h, if_pos h]
    have h1 : U64 (BitVec.ofNat 64 (N / 18446744073709551616)) = ((N / 18446744073709551616 : Nat) : Int) := U64_ofNat _ (by omega)
    have h2 : U64 (BitVec.ofNat 64 N) = ((N % 18446744073709551616 : Nat) : Int) := by unfold U64; rw [BitVec.toNat_ofNat]
    rw [h1, h2]
  · rw [if_neg h, if_neg h]
set_option maxRecDepth 100000 in
set_option maxHeartbeats 4000000 in
theorem walk (h1 l1 h2 l2 d : BitVec 64) (w : World) : Calls Try.prog 5 #[.agg #[.int .u64 (U64 h1), .int .u64 (U64 l1)], .agg #[.int .u64 (U64 h2), .int .u64 (U64 l2)], .int .u64 (U64 d)] w fun r w' => r = .returned (.bool true) ∧ Below w.heap.size w w' := by
  have HB0 := Lib.hid (((Below.refl w.heap.size w).alloc (Nat.le_refl _) (.cells #[.int .u64 (U64 h1), .int .u64 (U64 l1)] 34)).alloc (by simp) (.cells #[.int .u64 (U64 h2), .int .u64 (U64 l2)] 34))
  have RW := Lib.hid (show ((w.alloc (.cells #[.int .u64 (U64 h1), .int .u64 (U64 l1)] 34)).alloc (.cells #[.int .u64 (U64 h2), .int .u64 (U64 l2)] 34)).heap[w.heap.size]? = some (.cells #[.int .u64 (U64 h1), .int .u64 (U64 l1)] 34) from alloc_old (alloc_at rfl))
  have RO := Lib.hid (show ((w.alloc (.cells #[.int .u64 (U64 h1), .int .u64 (U64 l1)] 34)).alloc (.cells #[.int .u64 (U64 h2), .int .u64 (U64 l2)] 34)).heap[w.heap.size + 1]? = some (.cells #[.int .u64 (U64 h2), .int .u64 (U64 l2)] 34) from alloc_at (by simp))
  go_enter Try.func5, Try.ntmps5
  go_wp2_with fail
  refine (number_any h1 l1 _).mono ?_
  rintro e w1 ⟨rfl, hi, hb⟩
  have HB1 := Lib.hid (HB0.out.trans (hb.mono (by simp; omega)))
  have RW1 := Lib.hid (row_kept RW.out hb)
  have RO1 := Lib.hid (row_kept RO.out hb)
  simp only [World.size_alloc] at hi ⊢
  generalize w.heap.size + 1 + 1 + 1 = gx at hi ⊢
  have HX1 := Lib.hid hi
  clear hi hb RW RO HB0
  have z0 : w1.cell? ⟨w.heap.size + 1, 0, none⟩ = some (.int .u64 (U64 h2)) := by rw [cell_of_row _ _ _ _ _ _ RO1.out]; rfl
  have z1 : w1.cell? ⟨w.heap.size + 1, 1, none⟩ = some (.int .u64 (U64 l2)) := by rw [cell_of_row _ _ _ _ _ _ RO1.out]; rfl
  go_wp2_with fail
  refine (number_any h2 l2 _).mono ?_
  rintro e w2 ⟨rfl, hi, hb⟩
  have HB2 := Lib.hid (HB1.out.trans (hb.mono HB1.out.size))
  have RW2 := Lib.hid (row_kept RW1.out hb)
  have RO2 := Lib.hid (row_kept RO1.out hb)
  have HX2 := Lib.hid (HX1.out.kept hb)
  generalize w1.heap.size + 1 = gy at hi ⊢
  have HY2 := Lib.hid hi
  clear hi hb RW1 RO1 HX1 z0 z1
  have z1 : w2.cell? ⟨w.heap.size + 1, 1, none⟩ = some (.int .u64 (U64 l2)) := by rw [cell_of_row _ _ _ _ _ _ RO2.out]; rfl
  have y1 : w2.cell? ⟨w.heap.size, 1, none⟩ = some (.int .u64 (U64 l1)) := by rw [cell_of_row _ _ _ _ _ _ RW2.out]; rfl
  have HP := Lib.hid (show l1.toNat * l2.toNat < 340282366920938463463374607431768211456 by
    have : l1.toNat * l2.toNat ≤ 18446744073709551615 * 18446744073709551615 := Nat.mul_le_mul (by have := l1.isLt; omega) (by have := l2.isLt; omega)
    omega)
  have HMI := Lib.hid (show ((l1.toNat : Nat) : Int) * ((l2.toNat : Nat) : Int) = ((l1.toNat * l2.toNat : Nat) : Int) from (Int.natCast_mul _ _).symm)
  have KS := Lib.hid (fun W => scale_any l1 l2 d W)
  have KP := Lib.hid (product_any l1 l2 w2)
  unfold wideA at KP
  obtain ⟨pq, hpq⟩ : ∃ pq : Int, pq = ((l1.toNat * l2.toNat / 18446744073709551616 : Nat) : Int) := ⟨_, rfl⟩
  obtain ⟨pr, hpr⟩ : ∃ pr : Int, pr = ((l1.toNat * l2.toNat % 18446744073709551616 : Nat) : Int) := ⟨_, rfl⟩
  rw [← hpq, ← hpr] at KP
  have HWV := Lib.hid (show wideV (l1.toNat * l2.toNat) = .tuple #[.int .u64 pq, .int .u64 pr, .bool true] by rw [wideV_eq, if_pos HP.out, ← hpq, ← hpr])
  have HPQ := Lib.hid (And.intro hpq hpr)
  clear hpq hpr
  go_wp2_with fail
  refine KP.out.mono ?_
  rintro e w3 ⟨rfl, hb⟩
  have HB3 := Lib.hid (HB2.out.trans (hb.mono HB2.out.size))
  have RW3 := Lib.hid (row_kept RW2.out hb)
  have RO3 := Lib.hid (row_kept RO2.out hb)
  have HX3 := Lib.hid (HX2.out.kept hb)
  have HY3 := Lib.hid (HY2.out.kept hb)
  clear hb RW2 RO2 HX2 HY2 z1 y1 KP
  generalize hPe : l1.toNat * l2.toNat = P at *
  have HPE := Lib.hid hPe
  clear hPe
  have hba : Below w3.heap.size w3 (w3.alloc (.cells #[.int .u64 pq, .int .u64 pr] 34)) := (Below.refl _ _).alloc (Nat.le_refl _) _
  have HW4 := Lib.hid (show ∀ W, W = w3.alloc (.cells #[.int .u64 pq, .int .u64 pr] 34) → Below w.heap.size w W ∧ W.heap[w.heap.size]? = some (.cells #[.int .u64 (U64 h1), .int .u64 (U64 l1)] 34) ∧ W.heap[w.heap.size + 1]? = some (.cells #[.int .u64 (U64 h2), .int .u64 (U64 l2)] 34) ∧
      IntAt W gx (wN h1 l1) ∧ IntAt W gy (wN h2 l2) ∧ W.heap[w3.heap.size]? = some (.cells #[.int .u64 pq, .int .u64 pr] 34) from by
    rintro W rfl
    exact ⟨HB3.out.trans (hba.mono HB3.out.size), row_kept RW3.out hba, row_kept RO3.out hba, HX3.out.kept hba, HY3.out.kept hba, alloc_at rfl⟩)
  clear hba HB3 RW3 RO3 HX3 HY3
  go_upto_region 4 with fail
  refine wp_world (fun W => W = w3.alloc (.cells #[.int .u64 pq, .int .u64 pr] 34)) rfl ?_
  intro w4 hw4
  have H4 := Lib.hid (HW4.out w4 hw4)
  generalize w3.heap.size = gp at *
  clear HW4 hw4
  go_cut [10, 11, 12] from 39 to 51 (fun a b c wc => a = .int .u64 pq ∧ b = .int .u64 pr ∧ c = .bool true ∧ Below w4.heap.size w4 wc)
  case first =>
    have z1 : w4.cell? ⟨w.heap.size + 1, 1, none⟩ = some (.int .u64 (U64 l2)) := by rw [cell_of_row _ _ _ _ _ _ H4.out.2.2.1]; rfl
    have y1 : w4.cell? ⟨w.heap.size, 1, none⟩ = some (.int .u64 (U64 l1)) := by rw [cell_of_row _ _ _ _ _ _ H4.out.2.1]; rfl
    have hd : Below w4.heap.size w4 w4.drew := below_drawn (Below.refl _ _) _
    have KW := Lib.hid (show ∀ (g : Nat) (W : World), IntAt W g (P : Int) → Calls Try.prog 24 #[.pointer (some ⟨g, 0, none⟩)] W fun e w' => e = .returned (.tuple #[.int .u64 pq, .int .u64 pr, .bool true]) ∧ Below W.heap.size W w' from fun g W h => by
      have := wide_any g P W h (Nat.lt_trans HP.out (by decide))
      rw [HWV.out] at this; exact this)
    go_region_held3 (fun V => V.cell? ⟨w.heap.size + 1, 1, none⟩ = some (.int .u64 (U64 l2)) ∧ V.cell? ⟨w.heap.size, 1, none⟩ = some (.int .u64 (U64 l1))) (go_keep)
      ((first
        | (go_at_call 26; (with_reducible refine (big_any l1 _).mono ?_); rintro e1 v1 ⟨rfl, hi1, hb1⟩
           have hv1 : Below w4.heap.size w4 v1 := (by first | exact hd.trans (hb1.mono (Nat.le_refl _)) | exact (hd.alloc hd.size _).trans (hb1.mono (by simp)))
           have zA := below_cell hv1 z1; have yA := below_cell hv1 y1
           try simp only [World.size_alloc, World.size_drew] at hi1)
        | (go_at_call 26; (with_reducible refine (big_any l2 _).mono ?_); rintro e2 v2 ⟨rfl, hi2, hb2⟩
           have hv2 : Below w4.heap.size w4 v2 := (by first | exact hv1.trans (hb2.mono hv1.size) | exact (hv1.alloc hv1.size _).trans (hb2.mono (Nat.le_trans hv1.size (by simp))))
           have zB := below_cell hv2 z1; have yB := below_cell hv2 y1
           try simp only [World.size_alloc, World.size_drew] at hi2)
        | (go_at_call 25; refine (mul_any _ _ _ ((l1.toNat : Nat) : Int) ((l2.toNat : Nat) : Int) _ ?_ ?_ ?_ (bv_small l1) (bv_small l2)).mono ?_
           · first | exact ((isInt_new w4.drew).kept hb1).kept hb2 | exact (isInt_new v1).kept hb2 | exact isInt_new v2
           · first | exact hi1.kept hb2 | exact (hi1.kept ((Below.refl v1.heap.size v1).alloc (Nat.le_refl _) (.cells #[.bool false, .slice none 0 0] 42))).kept hb2 | exact (hi1.kept hb2).kept ((Below.refl v2.heap.size v2).alloc (Nat.le_refl _) (.cells #[.bool false, .slice none 0 0] 42))
           · first | exact hi2 | exact hi2.kept ((Below.refl v2.heap.size v2).alloc (Nat.le_refl _) (.cells #[.bool false, .slice none 0 0] 42))
           rintro e3 v3 ⟨rfl, hg3, hi3⟩
           have hv3 : Below w4.heap.size w4 v3 := (by first | exact hv2.grown hg3 hv2.size (fun k hk => by cases hk; first | exact Nat.le_refl _ | exact hv1.size) | exact (hv2.alloc hv2.size _).grown hg3 (hv2.alloc hv2.size _).size (fun k hk => by cases hk; exact hv2.size))
           have zC := below_cell hv3 z1; have yC := below_cell hv3 y1
           rw [HMI.out] at hi3)
        | (go_at_call 24; (with_reducible refine (KW.out _ _ hi3).mono ?_); rintro e4 v4 ⟨rfl, hb4⟩
           have hv4 := hv3.trans (hb4.mono hv3.size)
           have zD := below_cell hv4 z1; have yD := below_cell hv4 y1)))
    all_goals
      have HVE := Lib.hid hv4
      clear hv1 hv2 hv3 hv4 hb1 hb2 hb4 hi1 hi2 hi3 hg3
      go_wp2
      go_meet
      exact ⟨rfl, rfl, rfl, HVE.out⟩
  case rest =>
  obtain ⟨rfl, rfl, rfl, hb⟩ := hcut
  have HB5 := Lib.hid (H4.out.1.trans (hb.mono H4.out.1.size))
  have RW5 := Lib.hid (row_kept H4.out.2.1 hb)
  have RO5 := Lib.hid (row_kept H4.out.2.2.1 hb)
  have HX5 := Lib.hid (H4.out.2.2.2.1.kept hb)
  have HY5 := Lib.hid (H4.out.2.2.2.2.1.kept hb)
  have RP5 := Lib.hid (row_kept H4.out.2.2.2.2.2 hb)
  clear hb H4
  have HPS := Lib.hid (show ∃ (sa sb ec : Int) (ft : Bool), plusV (wN h1 l1 + wN h2 l2) = .tuple #[.agg #[.int .u64 sa, .int .u64 sb], .int .i64 ec] ∧ wideV (wN h1 l1 + wN h2 l2) = .tuple #[.int .u64 sa, .int .u64 sb, .bool ft] ∧ ((ft = true ∧ ec = 0) ∨ (ft = false ∧ ec = 10)) by
    rw [wideV_eq]
    unfold plusV wideA
    by_cases h : wN h1 l1 + wN h2 l2 < 340282366920938463463374607431768211456
    · rw [if_pos h, if_pos h]; exact ⟨_, _, _, _, rfl, rfl, .inl ⟨rfl, rfl⟩⟩
    · rw [if_neg h, if_neg h]; exact ⟨_, _, _, _, rfl, rfl, .inr ⟨rfl, rfl⟩⟩)
  obtain ⟨sa, sb, ec, ft, hpv, hwv, hft⟩ := HPS.out
  have HFT := Lib.hid hft
  have K27 := Lib.hid (wplus_any h1 l1 h2 l2 wc)
  rw [hpv] at K27
  have KW2 := Lib.hid (show ∀ (g : Nat) (W : World), IntAt W g ((wN h1 l1 : Nat) + (wN h2 l2 : Nat) : Int) → Calls Try.prog 24 #[.pointer (some ⟨g, 0, none⟩)] W fun e w' => e = .returned (.tuple #[.int .u64 sa, .int .u64 sb, .bool ft]) ∧ Below W.heap.size W w' from fun g W h => by
    have h' : IntAt W g ((wN h1 l1 + wN h2 l2 : Nat) : Int) := by rw [Int.natCast_add]; exact h
    have h1' := wN_lt h1 l1
    have h2' := wN_lt h2 l2
    have := wide_any g (wN h1 l1 + wN h2 l2) W h' (by omega)
    rw [hwv] at this; exact this)
  clear hpv hwv hft HPS
  have a0 : wc.cell? ⟨w.heap.size, 0, none⟩ = some (.int .u64 (U64 h1)) := by rw [cell_of_row _ _ _ _ _ _ RW5.out]; rfl
  have a1 : wc.cell? ⟨w.heap.size, 1, none⟩ = some (.int .u64 (U64 l1)) := by rw [cell_of_row _ _ _ _ _ _ RW5.out]; rfl
  have a2 : wc.cell? ⟨w.heap.size + 1, 0, none⟩ = some (.int .u64 (U64 h2)) := by rw [cell_of_row _ _ _ _ _ _ RO5.out]; rfl
  have a3 : wc.cell? ⟨w.heap.size + 1, 1, none⟩ = some (.int .u64 (U64 l2)) := by rw [cell_of_row _ _ _ _ _ _ RO5.out]; rfl
  go_wp2_with fail
  refine K27.out.mono ?_
  rintro e w5 ⟨rfl, hb⟩
  have HB6 := Lib.hid (HB5.out.trans (hb.mono HB5.out.size))
  have hba : Below w5.heap.size w5 (w5.alloc (.cells #[.int .u64 sa, .int .u64 sb] 34)) := (Below.refl _ _).alloc (Nat.le_refl _) _
  have RW6 := Lib.hid (row_kept (row_kept RW5.out hb) hba)
  have RO6 := Lib.hid (row_kept (row_kept RO5.out hb) hba)
  have RP6 := Lib.hid (row_kept (row_kept RP5.out hb) hba)
  have HX6 := Lib.hid ((HX5.out.kept hb).kept hba)
  have HY6 := Lib.hid ((HY5.out.kept hb).kept hba)
  have HB6' := Lib.hid (HB6.out.trans (hba.mono HB6.out.size))
  have RS6 := Lib.hid (show (w5.alloc (.cells #[.int .u64 sa, .int .u64 sb] 34)).heap[w5.heap.size]? = some (.cells #[.int .u64 sa, .int .u64 sb] 34) from alloc_at rfl)
  clear hb hba a0 a1 a2 a3 RW5 RO5 RP5 HX5 HY5 HB5 HB6 K27
  go_upto_region 6 with fail
  refine wp_world (fun W => W = w5.alloc (.cells #[.int .u64 sa, .int .u64 sb] 34)) rfl ?_
  intro w6 hw6
  rw [← hw6] at RW6 RO6 RP6 HX6 HY6 HB6' RS6
  generalize w5.heap.size = gs at *
  clear hw6
  have hba : Below w6.heap.size w6 (w6.alloc (.cells #[.bool false, .slice none 0 0] 42)) := (Below.refl _ _).alloc (Nat.le_refl _) _
  have HBA := Lib.hid hba
  have K28 := Lib.hid (add_any w6.heap.size gx gy _ _ _ (isInt_new w6) (HX6.out.kept hba) (HY6.out.kept hba) (pw900_ge _ (by rw [Int.natAbs_natCast]; exact wN_lt _ _)) (pw900_ge _ (by rw [Int.natAbs_natCast]; exact wN_lt _ _)))
  clear hba
  go_wp2_with fail
  refine K28.out.mono ?_
  rintro e w7 ⟨rfl, hg, hi⟩
  have HG7 := Lib.hid (show Below w6.heap.size w6 w7 from HBA.out.grown hg HBA.out.size (fun k hk => by cases hk; exact Nat.le_refl _))
  have HI7 := Lib.hid hi
  clear hg hi K28
  have K24 := Lib.hid (KW2.out w6.heap.size w7 HI7.out)
  go_wp2_with fail
  refine K24.out.mono ?_
  rintro e w8 ⟨rfl, hb⟩
  have HG8 := Lib.hid (HG7.out.trans (hb.mono HG7.out.size))
  have HB8 := Lib.hid (HB6'.out.trans (HG8.out.mono HB6'.out.size))
  have RW8 := Lib.hid (row_kept RW6.out HG8.out)
  have RO8 := Lib.hid (row_kept RO6.out HG8.out)
  have RP8 := Lib.hid (row_kept RP6.out HG8.out)
  have RS8 := Lib.hid (row_kept RS6.out HG8.out)
  have HX8 := Lib.hid (HX6.out.kept HG8.out)
  have HY8 := Lib.hid (HY6.out.kept HG8.out)
  clear hb K24 KW2 HI7 HG7 HG8 RW6 RO6 RP6 RS6 HX6 HY6 HB6' HBA
  have a0 : w8.cell? ⟨w.heap.size, 0, none⟩ = some (.int .u64 (U64 h1)) := by rw [cell_of_row _ _ _ _ _ _ RW8.out]; rfl
  have a1 : w8.cell? ⟨w.heap.size, 1, none⟩ = some (.int .u64 (U64 l1)) := by rw [cell_of_row _ _ _ _ _ _ RW8.out]; rfl
  have p0 : w8.cell? ⟨gp, 0, none⟩ = some (.int .u64 pq) := by rw [cell_of_row _ _ _ _ _ _ RP8.out]; rfl
  have p1 : w8.cell? ⟨gp, 1, none⟩ = some (.int .u64 pr) := by rw [cell_of_row _ _ _ _ _ _ RP8.out]; rfl
  have s0 : w8.cell? ⟨gs, 0, none⟩ = some (.int .u64 sa) := by rw [cell_of_row _ _ _ _ _ _ RS8.out]; rfl
  have s1 : w8.cell? ⟨gs, 1, none⟩ = some (.int .u64 sb) := by rw [cell_of_row _ _ _ _ _ _ RS8.out]; rfl
  have e1 : (pq == pq) = true := by simp
  have e2 : (pr == pr) = true := by simp
  have e3 : (sa == sa) = true := by simp
  have e4 : (sb == sb) = true := by simp
  have K29 := Lib.hid (show Calls Try.prog 29 #[.agg #[.int .u64 (U64 h1), .int .u64 (U64 l1)], .int .u64 (U64 d)] w8 fun e w' => e = .returned (overV (wN h1 l1) d.toNat) ∧ Below w8.heap.size w8 w' from wover_any h1.toNat l1.toNat d.toNat w8 h1.isLt l1.isLt d.isLt)
  obtain ⟨va, vb, vc, hv⟩ := overV_int (wN h1 l1) d.toNat
  obtain ⟨ua, ub, uc, hu⟩ := overV_int P d.toNat
  have K30 := Lib.hid (fun (g : Nat) (W : World) (h : IntAt W g (wN h1 l1)) => rover_any g (wN h1 l1) d W h (wN_lt _ _))
  have K30' := Lib.hid (fun (g : Nat) (W : World) (h : IntAt W g (P : Int)) => rover_any g P d W h HP.out)
  rw [hv] at K29
  simp only [hv] at K30
  simp only [hu] at K30' KS
  clear hv hu
  have KNUM := Lib.hid (show ∀ W, Calls Try.prog 22 #[.agg #[.int .u64 pq, .int .u64 pr]] W fun e w' => e = .returned (.pointer (some ⟨W.heap.size + 1, 0, none⟩)) ∧ IntAt w' (W.heap.size + 1) (P : Int) ∧ Below W.heap.size W w' from fun W => by
    have h := number_any (BitVec.ofNat 64 (P / 18446744073709551616)) (BitVec.ofNat 64 (P % 18446744073709551616)) W
    have hp := HP.out
    rw [U64_ofNat _ (by omega), U64_ofNat _ (Nat.mod_lt _ (by omega)), ← HPQ.out.1, ← HPQ.out.2] at h
    have hw : wN (BitVec.ofNat 64 (P / 18446744073709551616)) (BitVec.ofNat 64 (P % 18446744073709551616)) = P := by
      unfold wN
      rw [BitVec.toNat_ofNat, BitVec.toNat_ofNat]
      omega
    rw [hw] at h
    exact h)
  rcases HFT.out with ⟨rfl, rfl⟩ | ⟨rfl, rfl⟩
  all_goals
    go_wp2_with fail
    refine K29.out.mono ?_
    rintro e w9 ⟨rfl, hb⟩
    have HB9 := Lib.hid (HB8.out.trans (hb.mono HB8.out.size))
    have RW9 := Lib.hid (row_kept RW8.out hb)
    have RO9 := Lib.hid (row_kept RO8.out hb)
    have RP9 := Lib.hid (row_kept RP8.out hb)
    have HX9 := Lib.hid (HX8.out.kept hb)
    have HY9 := Lib.hid (HY8.out.kept hb)
    clear hb a0 a1 p0 p1 s0 s1
    go_wp2_with fail
    refine (K30.out gx w9 HX9.out).mono ?_
    rintro e w10 ⟨rfl, hb⟩
    have HB10 := Lib.hid (HB9.out.trans (hb.mono HB9.out.size))
    have RW10 := Lib.hid (row_kept RW9.out hb)
    have RO10 := Lib.hid (row_kept RO9.out hb)
    have RP10 := Lib.hid (row_kept RP9.out hb)
    have HX10 := Lib.hid (HX9.out.kept hb)
    have HY10 := Lib.hid (HY9.out.kept hb)
    clear hb HB9 RW9 RO9 RP9 HX9 HY9
    have a1 : w10.cell? ⟨w.heap.size, 1, none⟩ = some (.int .u64 (U64 l1)) := by rw [cell_of_row _ _ _ _ _ _ RW10.out]; rfl
    have a3 : w10.cell? ⟨w.heap.size + 1, 1, none⟩ = some (.int .u64 (U64 l2)) := by rw [cell_of_row _ _ _ _ _ _ RO10.out]; rfl
    go_wp2_with fail
    refine (KS.out w10).mono ?_
    rintro e w11 ⟨rfl, hb⟩
    have HB11 := Lib.hid (HB10.out.trans (hb.mono HB10.out.size))
    have RW11 := Lib.hid (row_kept RW10.out hb)
    have RO11 := Lib.hid (row_kept RO10.out hb)
    have RP11 := Lib.hid (row_kept RP10.out hb)
    have HX11 := Lib.hid (HX10.out.kept hb)
    have HY11 := Lib.hid (HY10.out.kept hb)
    clear hb a1 a3 HB10 RW10 RO10 RP10 HX10 HY10
    have p0 : w11.cell? ⟨gp, 0, none⟩ = some (.int .u64 pq) := by rw [cell_of_row _ _ _ _ _ _ RP11.out]; rfl
    have p1 : w11.cell? ⟨gp, 1, none⟩ = some (.int .u64 pr) := by rw [cell_of_row _ _ _ _ _ _ RP11.out]; rfl
    go_wp2_with fail
    refine (KNUM.out w11).mono ?_
    rintro e w12 ⟨rfl, hi, hb⟩
    have HB12 := Lib.hid (HB11.out.trans (hb.mono HB11.out.size))
    have RW12 := Lib.hid (row_kept RW11.out hb)
    have RO12 := Lib.hid (row_kept RO11.out hb)
    have HX12 := Lib.hid (HX11.out.kept hb)
    have HY12 := Lib.hid (HY11.out.kept hb)
    have HI12 := Lib.hid hi
    clear hb hi p0 p1 HB11 RW11 RO11 RP11 HX11 HY11
    go_wp2_with fail
    refine (K30'.out _ w12 HI12.out).mono ?_
    rintro e w13 ⟨rfl, hb⟩
    have HB13 := Lib.hid (HB12.out.trans (hb.mono HB12.out.size))
    have RW13 := Lib.hid (row_kept RW12.out hb)
    have RO13 := Lib.hid (row_kept RO12.out hb)
    have HX13 := Lib.hid (HX12.out.kept hb)
    have HY13 := Lib.hid (HY12.out.kept hb)
    clear hb HB12 RW12 RO12 HX12 HY12 HI12
    have a0 : w13.cell? ⟨w.heap.size, 0, none⟩ = some (.int .u64 (U64 h1)) := by rw [cell_of_row _ _ _ _ _ _ RW13.out]; rfl
    have a1 : w13.cell? ⟨w.heap.size, 1, none⟩ = some (.int .u64 (U64 l1)) := by rw [cell_of_row _ _ _ _ _ _ RW13.out]; rfl
    have a2 : w13.cell? ⟨w.heap.size + 1, 0, none⟩ = some (.int .u64 (U64 h2)) := by rw [cell_of_row _ _ _ _ _ _ RO13.out]; rfl
    have a3 : w13.cell? ⟨w.heap.size + 1, 1, none⟩ = some (.int .u64 (U64 l2)) := by rw [cell_of_row _ _ _ _ _ _ RO13.out]; rfl
    have f1 : (va == va) = true := by simp
    have f2 : (vb == vb) = true := by simp
    have f3 : (vc == vc) = true := by simp
    have f4 : (ua == ua) = true := by simp
    have f5 : (ub == ub) = true := by simp
    have f6 : (uc == uc) = true := by simp
    have K32 := Lib.hid (wcmp_any h1 l1 h2 l2 w13)
    have HCM := Lib.hid (fun W (hx : IntAt W gx (wN h1 l1)) (hy : IntAt W gy (wN h2 l2)) => cmp_any gx gy _ _ W hx hy (pw900_ge _ (by rw [Int.natAbs_natCast]; exact wN_lt _ _)) (pw900_ge _ (by rw [Int.natAbs_natCast]; exact wN_lt _ _)))
    generalize cmpI (wN h1 l1) (wN h2 l2) = cm at *
    have f7 : (cm == cm) = true := by simp
    go_wp2_with fail
    refine K32.out.mono ?_
    rintro e w14 ⟨rfl, hb⟩
    have HB14 := Lib.hid (HB13.out.trans (hb.mono HB13.out.size))
    have K33 := Lib.hid (HCM.out w14 (HX13.out.kept hb) (HY13.out.kept hb))
    clear hb a0 a1 a2 a3 K32
    go_wp2_with fail
    refine K33.out.mono ?_
    rintro e w15 ⟨rfl, hq⟩
    have HB15 := Lib.hid (HB14.out.trans (hq.below _))
    clear hq K33
    go_wp2
    go_ret
    exact ⟨rfl, HB15.out⟩
theorem own : ownKnob Try.prog.godebug = none := by kernel_rfl
theorem laidOut : laidOutB Try.prog = true := by kernel_rfl
set_option maxRecDepth 100000 in
theorem lifted (os : Os) (started : os.Started) (H : Type) (enc : TypeId × Value → H) :
    ReturnsInHanded {} Try.checked os 5 .any (Rows.countWidesSpec.pre6 enc Try.prog Try.f5 Rows.countWidesRow.domain false) (Rows.countWidesSpec.post enc Try.prog Try.f5 false true false false) := by
  refine returnsInHanded_of_change_sized (C := Try.checked) own started (by kernel_rfl) Try.func5
    (ChangeSpec.witness6 (enc := enc) (C := Try.checked) false ⟨#[], #[.agg #[.int .u64 0, .int .u64 0], .agg #[.int .u64 0, .int .u64 0], .int .u64 0], []⟩ 8 (by kernel_rfl) (by kernel_rfl) (by kernel_rfl) (by kernel_rfl)) ?_
  intro W base args ds gs before hval0 hW hcnd hsz0 _
  have hsz : (DataW.weightsEach Try.prog (Try.f5.params.toList ++ Rows.countWidesSpec.plain.varTypes Try.prog) (ds ++ gs)).all (· ≤ reachBytes) = true := hsz0
  clear hsz0
  have hval : ∀ (j : Nat) t v, Try.f5.params[j]? = some t → args[j]? = some v → Value.okWide Try.prog W .any base t v := hval0
  have hW' := hW
  obtain ⟨p, q, hA0, hV, rfl, hfz, hnd⟩ := hW
  have hA : DataW.TrodAll enc Try.prog W 0 (fun _ => true) true Try.f5.params.toList args.toList ds p := hA0
  rw [Try.params5] at hA hval hsz
  obtain ⟨v0, vs0, d0, ds0, p0, q0, hargs, rfl, rfl, h0, r0⟩ := trodAll_cons hA
  obtain ⟨v1, vs1, d1, ds1, p1, q1, rfl, rfl, rfl, h1, r1⟩ := trodAll_cons r0
  obtain ⟨v2, vs2, d2, ds2, p2, q2, rfl, rfl, rfl, h2, r2⟩ := trodAll_cons r1
  obtain ⟨rfl, rfl, rfl⟩ := trodAll_nil r2
  obtain rfl : args = #[v0, v1, v2] := by cases args; simp_all
  obtain ⟨rfl, rfl⟩ := trodVars_none hV
  have k0 := h0
  have lt0 : ∀ x ∈ p0, x.block < W.heap.size := by obtain ⟨m, hm⟩ := k0; exact DataW.trod_lt m _ _ _ hm
  obtain ⟨x0, y0, rfl⟩ := open_wide (hval 0 34 v0 rfl rfl) h0
  have k1 := h1
  have lt1 : ∀ x ∈ p1, x.block < W.heap.size := by obtain ⟨m, hm⟩ := k1; exact DataW.trod_lt m _ _ _ hm
  obtain ⟨x1, y1, rfl⟩ := open_wide (hval 1 34 v1 rfl rfl) h1
  obtain ⟨a2, rfl, rfl, rfl, w2⟩ := open_int Try.underlying24 (hval 2 24 v2 rfl rfl) h2
  obtain ⟨x2, rfl⟩ := u64_of_wf w2
  clear hA0 hval0
  refine (walk x0 y0 x1 y1 x2 W).mono fun e W' ⟨he, bel⟩ => ?_
  subst he
  exact ⟨_, rfl, _, _, _, [], _, [], hW', trodAll_mk1 (shut_bool Try.underlying4 _), (trodAll_cons_mk (Below.trod laidOut (by kernel_rfl) (of_decide_eq_true (by kernel_rfl)) k0 bel lt0) (trodAll_cons_mk (Below.trod laidOut (by kernel_rfl) (of_decide_eq_true (by kernel_rfl)) k1 bel lt1) (trodAll_cons_mk (shut_int Try.underlying24 w2) trodAll_mk0))), rfl, bel.frame _, fun h => by cases h⟩
theorem over : Rows.countWidesRow.holds Try.pinned (OpenSpec.ofChange Rows.countWidesSpec) :=
  OpenClaim.holds_of_wide 5 Try.f5 rfl rfl rfl rfl rfl rfl rfl ⟨rfl, rfl, rfl, rfl, rfl⟩ rfl rfl rfl rfl rfl (by kernel_rfl) Try.func5 (by kernel_rfl)
    (of_decide_eq_true (by kernel_rfl)) (by unfold Func.isWrapper; first | (rw [if_pos (by decide +kernel)]; kernel_rfl) | (rw [if_neg (by decide +kernel)]; exact ⟨rfl, rfl⟩))
    (fun os started H enc _ => lifted os started H enc)
theorem proved : Rows.CountWidesSaid := over
#print axioms proved
end Go.Proofs.Ytdkfaicmdbhonaa.lawCountWides
