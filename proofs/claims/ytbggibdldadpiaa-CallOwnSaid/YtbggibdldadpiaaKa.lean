/-
  Layer 19: awake: two of three deal.
-/
import Derived.Test.YtbggibdldadpiaaJd
import Derived.Test.YtbggibdldadpiaaPb
namespace Go.Proofs.Ytbggibdldadpiaa
open Go.RowKit Go.K
open Go.Stab (swp rot Srt Prm Out)
set_option linter.unusedVariables false
set_option linter.unusedSimpArgs false
theorem rank_is {up : Bool} {l : List (BitVec 64)} (e : List Nat) (h1 : ∀ i, i < l.length → ∀ j, j < l.length → i < j → TU up l (e.getD i 0) (e.getD j 0)) (h2 : ((List.range l.length).map fun k => e.getD k 0).Perm (List.range l.length)) (h3 : e.length ≤ l.length) : RankZ up l (fun p => e.getD p 0) := by
  refine ⟨fun i j _ hij hj => h1 i (by omega) j hj hij, ?_, fun p hp => ?_⟩
  · unfold Prm Go.Stab.piece
    simpa [List.range_eq_range'] using h2
  · show e.getD p 0 = 0
    rw [List.getD_eq_getElem?_getD, List.getElem?_eq_none (by omega)]; rfl
instance (up : Bool) (l : List (BitVec 64)) (x y : Nat) : Decidable (TU up l x y) := by unfold TU; infer_instance
def axs : List (BitVec 64) := [3#64, 1#64, 7#64]
def ays : List (BitVec 64) := [5#64, 2#64, 8#64]
def bxs : List (BitVec 64) := [3#64, 1#64]
def bys : List (BitVec 64) := [5#64, 8#64]
theorem rk_axs : RankZ true axs (fun p => [1, 0, 2].getD p 0) := rank_is _ (by decide) (by decide) (by decide)
theorem rk_ays : RankZ false ays (fun p => [2, 0, 1].getD p 0) := rank_is _ (by decide) (by decide) (by decide)
theorem rk_bxs : RankZ true bxs (fun p => [1, 0].getD p 0) := rank_is _ (by decide) (by decide) (by decide)
theorem rk_bys : RankZ false bys (fun p => [1, 0].getD p 0) := rank_is _ (by decide) (by decide) (by decide)
theorem kv_a : KV axs ays (fun p => [1, 0, 2].getD p 0) (fun p => [2, 0, 1].getD p 0) 2 := ⟨by decide, by decide, by decide, by decide⟩
theorem kv_b : KV bxs bys (fun p => [1, 0].getD p 0) (fun p => [1, 0].getD p 0) 2 := ⟨by decide, by decide, by decide, by decide⟩
theorem clear_a {B : Nat} {W : World} {v : Value} (h : ClearA axs ays B W v) : ∃ a1 c1 a2 c2, v = .agg #[.slice a1 2 c1, .slice a2 2 c2, .int .u64 4, .int .u64 4] ∧ Sl W a1 (vI [1, 0]) ∧ Sl W a2 (vI [2, 0]) := by
  obtain ⟨da, db, k, h1, h2, h3, h4⟩ := h
  obtain rfl := rankz_unique h1 rk_axs
  obtain rfl := rankz_unique h2 rk_ays
  obtain rfl := kv_unique h3 kv_a
  obtain ⟨a1, c1, a2, c2, rfl, s1, s2⟩ := h4.parts
  exact ⟨a1, c1, a2, c2, rfl, s1, s2⟩
theorem strict_b {B : Nat} {W : World} {v : Value} (h : StrictA bxs bys B W v) : ∃ a1 c1 a2 c2, v = .agg #[.slice a1 1 c1, .slice a2 1 c2, .int .u64 5, .int .u64 3] ∧ Sl W a1 (vI [1]) := by
  obtain ⟨da, db, k, h1, h2, h3, h4⟩ := h
  obtain rfl := rankz_unique h1 rk_bxs
  obtain rfl := rankz_unique h2 rk_bys
  obtain rfl := kv_unique h3 kv_b
  obtain ⟨a1, c1, a2, c2, rfl, s1, s2⟩ := h4.parts
  exact ⟨a1, c1, a2, c2, rfl, s1⟩
set_option maxRecDepth 100000 in
set_option maxHeartbeats 2000000 in
theorem awake_any (w : World) : Calls Try.prog 7 #[] w fun e w' => e = .returned (.bool true) ∧ Below w.heap.size w w' := by
  obtain ⟨w1, hw1⟩ : ∃ w1, w1 = w.alloc (.cells #[.int .u64 3, .int .u64 1, .int .u64 7] 23) := ⟨_, rfl⟩
  obtain ⟨w2, hw2⟩ : ∃ w2, w2 = w1.alloc (.cells #[.int .u64 5, .int .u64 2, .int .u64 8] 23) := ⟨_, rfl⟩
  have hs1 : w1.heap.size = w.heap.size + 1 := by rw [hw1]; simp
  have hb1 : Below w.heap.size w w1 := by rw [hw1]; exact (Below.refl _ _).alloc (Nat.le_refl _) _
  have hb2 : Below w.heap.size w w2 := by rw [hw2]; exact hb1.alloc hb1.size _
  have sa : Sl w2 (some ⟨w.heap.size, 0, none⟩) (vQ axs) := by rw [hw2, hw1]; exact (sl_new w [.int .u64 3, .int .u64 1, .int .u64 7] 23 (0, 0)).kept ((Below.refl _ _).alloc (Nat.le_refl _) _)
  have sb : Sl w2 (some ⟨w.heap.size + 1, 0, none⟩) (vQ ays) := by rw [hw2, ← hs1]; exact sl_new w1 [.int .u64 5, .int .u64 2, .int .u64 8] 23 (0, 0)
  have K8 := Lib.hid (clear_any axs ays (some ⟨w.heap.size, 0, none⟩) (some ⟨w.heap.size + 1, 0, none⟩) 3 3 w2 (by decide) (by decide) sa sb)
  have HB2 := Lib.hid hb2
  have HW2 := Lib.hid hw2
  have HW1 := Lib.hid hw1
  clear hs1 hb1 hb2 sa sb hw1 hw2
  go_enter Try.func7, Try.ntmps7
  go_wp2_with fail
  rw [← HW1.out, ← HW2.out]
  refine K8.out.mono ?_
  rintro e w3 ⟨v3, rfl, hc, hb⟩
  obtain ⟨a1, c1, a2, c2, rfl, s1, s2⟩ := clear_a hc
  have S1 := Lib.hid s1
  have S2 := Lib.hid s2
  have HB3 := Lib.hid (HB2.out.trans (hb.mono HB2.out.size))
  clear hc hb s1 s2 K8
  go_wp2_with ((with_reducible refine at_store_op ?_); refine wpList_store_lit 27 w3.heap.size 0 #[.slice a1 2 c1, .slice a2 2 c2, .int .u64 4, .int .u64 4] (.agg #[.slice a1 2 c1, .slice a2 2 c2, .int .u64 4, .int .u64 4]) (cur := #[.slice none 0 0, .slice none 0 0, .int .u64 0, .int .u64 0]) (t := 27) (alloc_at rfl) sz27 (Nat.le_of_ble_eq_true rfl) rfl rfl ?_ ?_ ?_; exact rfl; exact rfl; intro w4 hp4)
  have hb : Below w3.heap.size w3 w4 := hp4.below ((Below.refl _ _).alloc (Nat.le_refl _) _) (by simp) (Nat.le_refl _)
  have RC := Lib.hid hp4.at'
  have HB4 := Lib.hid (HB3.out.trans (hb.mono HB3.out.size))
  have S1 := Lib.hid (S1.out.kept hb)
  have S2 := Lib.hid (S2.out.kept hb)
  clear hb hp4 HB3
  obtain ⟨w5, hw5⟩ : ∃ w5, w5 = w4.alloc (.cells #[.int .u64 3, .int .u64 1] 23) := ⟨_, rfl⟩
  obtain ⟨w6, hw6⟩ : ∃ w6, w6 = w5.alloc (.cells #[.int .u64 5, .int .u64 8] 23) := ⟨_, rfl⟩
  have hs5 : w5.heap.size = w4.heap.size + 1 := by rw [hw5]; simp
  have hb5 : Below w4.heap.size w4 w5 := by rw [hw5]; exact (Below.refl _ _).alloc (Nat.le_refl _) _
  have hb6 : Below w4.heap.size w4 w6 := by rw [hw6]; exact hb5.alloc hb5.size _
  have sa : Sl w6 (some ⟨w4.heap.size, 0, none⟩) (vQ bxs) := by rw [hw6, hw5]; exact (sl_new w4 [.int .u64 3, .int .u64 1] 23 (0, 0)).kept ((Below.refl _ _).alloc (Nat.le_refl _) _)
  have sb : Sl w6 (some ⟨w4.heap.size + 1, 0, none⟩) (vQ bys) := by rw [hw6, ← hs5]; exact sl_new w5 [.int .u64 5, .int .u64 8] 23 (0, 0)
  have K15 := Lib.hid (strict_any bxs bys (some ⟨w4.heap.size, 0, none⟩) (some ⟨w4.heap.size + 1, 0, none⟩) 2 2 w6 (by decide) (by decide) sa sb)
  have S1 := Lib.hid (S1.out.kept hb6)
  have S2 := Lib.hid (S2.out.kept hb6)
  have RC := Lib.hid (row_kept RC.out hb6)
  have HB6 := Lib.hid (HB4.out.trans (hb6.mono HB4.out.size))
  have HW6 := Lib.hid hw6
  have HW5 := Lib.hid hw5
  clear hs5 hb5 hb6 sa sb hw5 hw6 HB4
  go_wp2_with fail
  rw [← HW5.out, ← HW6.out]
  refine K15.out.mono ?_
  rintro e w7 ⟨v7, rfl, hc, hb⟩
  obtain ⟨e1, f1, e2, f2, rfl, s3⟩ := strict_b hc
  have S1 := Lib.hid (S1.out.kept hb)
  have S2 := Lib.hid (S2.out.kept hb)
  have S3 := Lib.hid s3
  have RC := Lib.hid (row_kept RC.out hb)
  have HB7 := Lib.hid (HB6.out.trans (hb.mono HB6.out.size))
  clear hc hb s3 K15 HB6
  go_upto_region 3 with ((with_reducible refine at_store_op ?_); refine wpList_store_lit 27 w7.heap.size 0 #[.slice e1 1 f1, .slice e2 1 f2, .int .u64 5, .int .u64 3] (.agg #[.slice e1 1 f1, .slice e2 1 f2, .int .u64 5, .int .u64 3]) (cur := #[.slice none 0 0, .slice none 0 0, .int .u64 0, .int .u64 0]) (t := 27) (alloc_at rfl) sz27 (Nat.le_of_ble_eq_true rfl) rfl rfl ?_ ?_ ?_; exact rfl; exact rfl; intro w8 hp8)
  have hb : Below w7.heap.size w7 w8 := hp8.below ((Below.refl _ _).alloc (Nat.le_refl _) _) (by simp) (Nat.le_refl _)
  have RS := Lib.hid hp8.at'
  have S1 := Lib.hid (S1.out.kept hb)
  have S2 := Lib.hid (S2.out.kept hb)
  have S3 := Lib.hid (S3.out.kept hb)
  have RC := Lib.hid (row_kept RC.out hb)
  have HB8 := Lib.hid (HB7.out.trans (hb.mono HB7.out.size))
  clear hb hp8 HB7
  -- the comparing
  have CEL := Lib.hid (show ∀ V, Below w8.heap.size w8 V → V.cell? ⟨w3.heap.size, 0, none⟩ = some (.slice a1 2 c1) ∧ V.cell? ⟨w3.heap.size, 1, none⟩ = some (.slice a2 2 c2) ∧ V.cell? ⟨w3.heap.size, 2, none⟩ = some (.int .u64 4) ∧ V.cell? ⟨w3.heap.size, 3, none⟩ = some (.int .u64 4) ∧ V.cell? ⟨w7.heap.size, 0, none⟩ = some (.slice e1 1 f1) ∧ V.cell? ⟨w7.heap.size, 2, none⟩ = some (.int .u64 5) ∧ V.cell? ⟨w7.heap.size, 3, none⟩ = some (.int .u64 3) from fun V h => by
    have r1 := row_kept RC.out h
    have r2 := row_kept RS.out h
    refine ⟨?_, ?_, ?_, ?_, ?_, ?_, ?_⟩
    iterate 4 (first | (rw [cell_of_row _ _ _ _ _ _ r1]; rfl) | skip)
    all_goals (first | (rw [cell_of_row _ _ _ _ _ _ r1]; rfl) | (rw [cell_of_row _ _ _ _ _ _ r2]; rfl)))
  have h9 : Below w8.heap.size w8 (w8.alloc (.cells #[.int .i64 1, .int .i64 0] 3)) := (Below.refl _ _).alloc (Nat.le_refl _) _
  have K1 := Lib.hid (same_true a1 (some ⟨w8.heap.size, 0, none⟩) c1 2 [1, 0] (w8.alloc (.cells #[.int .i64 1, .int .i64 0] 3)) (by decide) (S1.out.kept h9) (sl_new w8 [.int .i64 1, .int .i64 0] 3 (0, 0)))
  have H9 := Lib.hid h9
  clear h9
  obtain ⟨x0, x1, x2, x3, x4, x5, x6⟩ := CEL.out w8 (Below.refl _ _)
  go_wp2_with fail
  refine K1.out.mono ?_
  rintro e w9 ⟨rfl, hq⟩
  have h9 : Below w8.heap.size w8 w9 := H9.out.trans ((hq.below _).mono H9.out.size)
  have h10 : Below w8.heap.size w8 (w9.alloc (.cells #[.int .i64 2, .int .i64 0] 3)) := h9.alloc h9.size _
  have K2 := Lib.hid (same_true a2 (some ⟨w9.heap.size, 0, none⟩) c2 2 [2, 0] (w9.alloc (.cells #[.int .i64 2, .int .i64 0] 3)) (by decide) (S2.out.kept h10) (sl_new w9 [.int .i64 2, .int .i64 0] 3 (0, 0)))
  have H10 := Lib.hid h10
  obtain ⟨x0, x1, x2, x3, x4, x5, x6⟩ := CEL.out w9 h9
  clear h9 h10 hq K1
  go_wp2_with fail
  refine K2.out.mono ?_
  rintro e w10 ⟨rfl, hq⟩
  have h10 : Below w8.heap.size w8 w10 := H10.out.trans ((hq.below _).mono H10.out.size)
  have h11 : Below w8.heap.size w8 (w10.alloc (.cells #[.int .i64 1] 3)) := h10.alloc h10.size _
  have K3 := Lib.hid (same_true e1 (some ⟨w10.heap.size, 0, none⟩) f1 1 [1] (w10.alloc (.cells #[.int .i64 1] 3)) (by decide) (S3.out.kept h11) (sl_new w10 [.int .i64 1] 3 (0, 0)))
  have H11 := Lib.hid h11
  obtain ⟨x0, x1, x2, x3, x4, x5, x6⟩ := CEL.out w10 h10
  clear h10 h11 hq K2
  go_wp2_with fail
  refine K3.out.mono ?_
  rintro e w11 ⟨rfl, hq⟩
  have h11 : Below w8.heap.size w8 w11 := H11.out.trans ((hq.below _).mono H11.out.size)
  obtain ⟨x0, x1, x2, x3, x4, x5, x6⟩ := CEL.out w11 h11
  have HB := Lib.hid (HB8.out.trans (h11.mono HB8.out.size))
  clear h11 hq K3
  go_wp2
  go_ret
  exact ⟨rfl, HB.out⟩
end Go.Proofs.Ytbggibdldadpiaa
