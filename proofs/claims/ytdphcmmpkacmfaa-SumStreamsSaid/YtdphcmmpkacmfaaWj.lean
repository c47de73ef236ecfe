/-
  Layer 5: Join, as the program has it.
-/
import Derived.Test.YtdphcmmpkacmfaaWb
namespace Go.Proofs.Ytdphcmmpkacmfaa
open Go.RowKit Go.K
attribute [local go_sem] xor_U64 and_U64 or_U64 wrap_U64 ofInt_add64 ofInt_mul64 ofInt_neg64 shr_U64_1 shr_U64_4 U64_ofInt U8_ofInt64 u64_signed u64_compl

theorem join_neg (a b : BitVec 64) (n : Int) (w : World) (h : n < 0) :
    Calls Try.prog 12 #[.int .u64 (U64 a), .int .u64 (U64 b), .int .i64 n] w fun e w' => e = .returned (.tuple #[.int .u64 0, .int .i64 2]) ∧ w = w' := by
  go_enter Try.func12, Try.ntmps12
  go_wp2
  go_ret2
  exact ⟨rfl, rfl⟩
theorem join_any (a b : BitVec 64) (n : Nat) (w : World) (h : n < 9223372036854775808) :
    Calls Try.prog 12 #[.int .u64 (U64 a), .int .u64 (U64 b), .int .i64 n] w fun e w' => e = .returned (.tuple #[.int .u64 (U64 (joinRest a M0 n ^^^ b)), .int .i64 0]) ∧ Below w.heap.size w w' := by
  have hn0 : decide ((n : Int) < 0) = false := by simp
  go_enter Try.func12, Try.ntmps12
  go_wp2
  refine wp_world (fun W => Below w.heap.size w W ∧ W.heap[w.heap.size]? = some (.cells (matRow (upTo 0 M0)) 65)) ⟨(Below.refl _ _).alloc (Nat.le_refl _) _, heap_alloc_new _ _⟩ ?_
  intro W ⟨hB, hg⟩
  have HB := Lib.hid hB
  have HG := Lib.hid hg
  clear hB hg
  go_loopw [14] (fun i wr => ∃ k : Nat, k ≤ 64 ∧ i = .int .i64 k ∧ Below w.heap.size w wr ∧ wr.heap[w.heap.size]? = some (.cells (matRow (upTo k M0)) 65)) (fun i _ => 64 - (intOf i).toNat)
  case atStart => exact ⟨0, by omega, rfl, HB.out, HG.out⟩
  case round =>
    clear HB HG
    obtain ⟨k, hk, rfl, hB, hg⟩ := hrel
    have HB := Lib.hid hB
    have HG := Lib.hid hg
    clear hB hg
    by_cases hlt : k < 64
    · have hb : decide ((k : Int) < 64) = true := by simp; omega
      go_wp2_with fail
      refine (take_any (bitB k) _ 1 [0#8] _ (by decide) (by
        intro _
        exact ⟨wr.heap.size, 0, rfl, fun i hi => by rw [cell_of_row _ _ _ _ _ _ (heap_alloc_new _ _)]; rw [Nat.zero_add]; simp [vBs] at hi; subst hi; rfl⟩)).mono ?_
      rintro e w1 ⟨rfl, hb1⟩
      have hz := (Array.getElem?_eq_some_iff.1 HG.out).1
      have hg1 : w1.heap[w.heap.size]? = some (.cells (matRow (upTo k M0)) 65) := by
        rw [hb1.block _ (by simp; omega), heap_alloc_old _ _ hz]; exact HG.out
      have hc1 : w1.cell? ⟨w.heap.size, k, none⟩ = some (.int .u64 (U64 (upTo k M0 k))) := by rw [cell_of_row _ _ _ _ _ _ hg1, matRow_get _ _ hlt]
      have hf1 := frozen_of_row _ _ k _ _ hg1
      have HG1 := Lib.hid hg1
      have HB1 := Lib.hid ((HB.out.alloc HB.out.size _).trans (hb1.mono (by have := HB.out.size; simp; omega)))
      clear hg1 hb1 hz
      go_wp2
      go_roundw
      case rel =>
        refine ⟨k + 1, by omega, by go_num, HB1.out.setCell (Nat.le_refl _) _, ?_⟩
        rw [heap_setCell_same _ _ _ _ _ _ HG1.out]
        show some (Obj.cells ((matRow (upTo k M0)).setIfInBounds k (.int .u64 (U64 (M0 k)))) 65 (0, 0)) = _
        rw [matRow_set, upTo_set]
      case measure => simp [intOf]; omega
    · have hbk : decide ((k : Int) < 64) = false := by simp; omega
      have HG' := Lib.hid (show wr.heap[w.heap.size]? = some (.cells (matRow M0) 65) by rw [← matRow_upTo, show 64 = k by omega]; exact HG.out)
      clear HG
      go_wp2
      refine wp_world (fun W => Below w.heap.size w W ∧ W.heap[w.heap.size]? = some (.cells (matRow M0) 65)) ⟨HB.out, HG'.out⟩ ?_
      clear HB HG' hlt hk
      clear hn0
      intro W1 ⟨hB, hg⟩
      have HB := Lib.hid hB
      have HG := Lib.hid hg
      clear hB hg
      go_loopw [0, 2] (fun p q wr => ∃ (x : BitVec 64) (j : Nat) (m : Nat → BitVec 64), j ≤ n ∧ q = .int .i64 j ∧ p = .int .u64 (U64 x) ∧ joinRest x m j = joinRest a M0 n ∧ Below w.heap.size w wr ∧ wr.heap[w.heap.size]? = some (.cells (matRow m) 65)) (fun _ q _ => (intOf q).toNat)
      case atStart => exact ⟨a, n, M0, Nat.le_refl _, rfl, rfl, rfl, HB.out, HG.out⟩
      case round =>
        clear HB HG
        obtain ⟨x, j, m, hj, rfl, rfl, hr, hB, hg⟩ := hrel
        have HR := Lib.hid hr
        have HB := Lib.hid hB
        have HG := Lib.hid hg
        clear hB hg hr
        by_cases hpos : 0 < j
        · have hb : decide ((0 : Int) < (j : Int)) = true := by simp; omega
          have ha1 := and_one_i64 j (by omega)
          have hz := (Array.getElem?_eq_some_iff.1 HG.out).1
          have HM := Lib.hid (and_one_i64 j (by omega))
          clear ha1
          obtain ⟨y, hy⟩ : ∃ y, y = (if j % 2 = 1 then ofM m x else x) := ⟨_, rfl⟩
          have HY := Lib.hid hy
          have HR' := Lib.hid (show joinRest y (sqM m) (j / 2) = joinRest a M0 n by rw [hy, ← HR.out]; conv => rhs; rw [joinRest, if_neg (by omega)])
          clear HR hy
          by_cases hodd : j % 2 = 1
          case' pos =>
            have hy1 : y = ofM m x := by rw [HY.out, if_pos hodd]
            have hb1 : (bits BinOp.and IntKind.i64 (j : Int) 1 == 1) = true := by rw [HM.out, hodd]; rfl
            clear HM HY hodd
            subst hy1
            go_wp2_with fail
            refine (of_row m _ _ x _ HG.out).mono ?_
            rintro e w1 ⟨rfl, rfl⟩
          case' neg =>
            have hy1 : x = y := by rw [HY.out, if_neg hodd]
            have hb1 : (bits BinOp.and IntKind.i64 (j : Int) 1 == 1) = false := by rw [HM.out, show j % 2 = 0 by omega]; rfl
            clear HM HY hodd
            subst hy1
          all_goals
            go_wp2
            refine wp_world (fun W => Below w.heap.size w W ∧ w.heap.size < wr.heap.size ∧ W.heap[w.heap.size]? = some (.cells (matRow m) 65) ∧ W.heap[wr.heap.size]? = some (.cells (matRow (upTo 0 (sqM m))) 65))
              ⟨HB.out.alloc HB.out.size _, hz, by rw [heap_alloc_old _ _ hz]; exact HG.out, heap_alloc_new _ _⟩ ?_
            clear HB HG hz
            intro W2 ⟨hB, hz, hg, hg2⟩
            have HB := Lib.hid hB
            have HG := Lib.hid hg
            have HG2 := Lib.hid hg2
            clear hB hg hg2
            obtain ⟨wo, rfl⟩ : ∃ wo : World, wo = wr := ⟨_, rfl⟩
            go_loopw [33] (fun i wr => ∃ k : Nat, k ≤ 64 ∧ i = .int .i64 k ∧ Below w.heap.size w wr ∧ wr.heap[w.heap.size]? = some (.cells (matRow m) 65) ∧ wr.heap[wo.heap.size]? = some (.cells (matRow (upTo k (sqM m))) 65)) (fun i _ => 64 - (intOf i).toNat)
            case atStart => exact ⟨0, by omega, rfl, HB.out, HG.out, HG2.out⟩
            case round =>
              clear HB HG HG2
              obtain ⟨k, hk, rfl, hB, hg, hg2⟩ := hrel
              by_cases hlt : k < 64
              · have hbk : decide ((k : Int) < 64) = true := by simp; omega
                have hc1 : wr.cell? ⟨w.heap.size, k, none⟩ = some (.int .u64 (U64 (m k))) := by rw [cell_of_row _ _ _ _ _ _ hg, matRow_get _ _ hlt]
                have hc2 : wr.cell? ⟨wo.heap.size, k, none⟩ = some (.int .u64 (U64 (upTo k (sqM m) k))) := by rw [cell_of_row _ _ _ _ _ _ hg2, matRow_get _ _ hlt]
                have hf2 := frozen_of_row _ _ k _ _ hg2
                have HB := Lib.hid hB
                have HG := Lib.hid hg
                have HG2 := Lib.hid hg2
                clear hB hg hg2
                go_wp2_with fail
                refine (of_row m _ _ (m k) _ HG.out).mono ?_
                rintro e w1 ⟨rfl, rfl⟩
                go_wp2
                go_roundw
                case rel =>
                  refine ⟨k + 1, by omega, by go_num, HB.out.setCell (Nat.le_of_lt (by assumption)) _, ?_, ?_⟩
                  · rw [heap_setCell_other _ _ _ _ (by show w.heap.size ≠ wo.heap.size; omega)]; exact HG.out
                  · rw [heap_setCell_same _ _ _ _ _ _ HG2.out]
                    show some (Obj.cells ((matRow (upTo k (sqM m))).setIfInBounds k (.int .u64 (U64 (sqM m k)))) 65 (0, 0)) = _
                    rw [matRow_set, upTo_set]
                case measure => simp [intOf]; omega
              · obtain rfl : k = 64 := by omega
                have HB := Lib.hid hB
                have HG := Lib.hid hg
                have HG2 := Lib.hid (show wr.heap[wo.heap.size]? = some (.cells (matRow (sqM m)) 65) by rw [← matRow_upTo]; exact hg2)
                clear hB hg hg2
                go_wp2_with (first | (refine wpList_load_row rfl 65 _ rfl wo.heap.size rfl 65 (matRow (sqM m)) _ _ HG2.out Try.underlying65 rfl (by rw [matRow_size]; kernel_rfl) ?_) | (refine wpList_store_row rfl 65 _ _ rfl w.heap.size (matRow (sqM m)) rfl rfl 65 (matRow m) HG.out (by rw [matRow_size]; kernel_rfl) (by rw [matRow_size, matRow_size]) (matRow_one _) ?_))
                go_roundw
                case rel =>
                  refine ⟨_, j / 2, sqM m, by omega, by go_num, rfl, HR'.out, below_setRow HB.out (Nat.le_refl _) _, setRow_heap _ _ _ _ _ _ HG.out⟩
                case measure => simp [intOf]; omega
        · obtain rfl : j = 0 := by omega
          have HF := Lib.hid (show joinRest a M0 n = x by rw [← HR.out, joinRest]; rfl)
          clear HR
          go_wp2
          go_ret2
          exact ⟨by rw [HF.out]; rfl, HB.out⟩
end Go.Proofs.Ytdphcmmpkacmfaa
