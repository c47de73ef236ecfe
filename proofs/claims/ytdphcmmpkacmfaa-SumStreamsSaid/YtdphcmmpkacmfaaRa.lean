/-
  Layer 5: the document's answer, walked: step, take, Update, Sum, a row's work, zeros, Join, the stream.
-/
import Derived.Test.YtdphcmmpkacmfaaPa
import Derived.BigQuiet
import Derived.Deep.QuietTactic
import Derived.Test.YtdphcmmpkacmfaaReg
namespace Go.Proofs.Ytdphcmmpkacmfaa
open Go.RowKit Go.K
set_option linter.unusedVariables false
attribute [local go_sem] xor_U64 and_U64 or_U64 wrap_U64 wrap_U8 ofInt_add64 ofInt_mul64 ofInt_neg64 shr_U64_1 shr_U64_4 U64_ofInt U8_ofInt64 u64_signed u64_compl tdiv_U64_2 tmod_U64_2

theorem rstep_any (n : BitVec 64) (w : World) : Calls Try.prog 44 #[.int .u64 (U64 n)] w fun e w' => e = .returned (.int .u64 (U64 (stepB n))) ∧ w = w' := by
  have HS := Lib.hid (stepB_eq n)
  have HA := Lib.hid (and1_cases n)
  by_cases h : n.getLsbD 0 = true
  · have hb : (U64 (n &&& 1#64) == 0) = false := by rw [HA.out, h]; rfl
    have HF := Lib.hid (show stepB n = n >>> 1 ^^^ 14514072000185962306#64 by rw [HS.out, h]; rfl)
    clear HS HA h
    go_enter Try.func44, Try.ntmps44
    go_wp2
    go_ret
    exact ⟨by rw [HF.out]; rfl, rfl⟩
  · have hb : (U64 (n &&& 1#64) == 0) = true := by rw [HA.out, if_neg h]; rfl
    have HF := Lib.hid (show stepB n = n >>> 1 by rw [HS.out, if_neg h]; simp)
    clear HS HA h
    go_enter Try.func44, Try.ntmps44
    go_wp2
    go_ret
    exact ⟨by rw [HF.out]; rfl, rfl⟩
theorem rtake_any (n : BitVec 64) (c : BitVec 8) (w : World) : Calls Try.prog 37 #[.int .u64 (U64 n), .int .u8 (U8 c)] w fun e w' => e = .returned (.int .u64 (U64 (takeC n c))) ∧ w = w' := by
  have HT := Lib.hid (takeC_eq n c)
  go_enter Try.func37, Try.ntmps37
  go_wp2
  go_loop [0, 5] (fun q i => ∃ k : Nat, k ≤ 8 ∧ i = .int .i64 k ∧ q = .int .u64 (U64 (iterB k (n ^^^ c.setWidth 64)))) (fun _ i => 8 - (intOf i).toNat)
  case atStart => exact ⟨0, by omega, rfl, rfl⟩
  case round =>
    obtain ⟨k, hk, rfl, rfl⟩ := hrel
    by_cases hlt : k < 8
    · go_wp2_with (go_at_call 44; refine (rstep_any _ _).mono ?_; rintro e w' ⟨rfl, rfl⟩)
      go_round
      case rel => exact ⟨k + 1, by omega, by go_num, rfl⟩
      case measure => simp [intOf]; omega
    · obtain rfl : k = 8 := by omega
      go_wp2
      go_ret
      exact ⟨by rw [HT.out]; rfl, rfl⟩
theorem u64_ones (r : BitVec 64) : r ^^^ 18446744073709551615#64 = ~~~ r := by
  rw [show 18446744073709551615#64 = BitVec.allOnes 64 from by decide, BitVec.xor_allOnes]
theorem rupdate_any (r : BitVec 64) (a : Option Addr) (cap : Nat) (l : List (BitVec 8)) (w : World) (hl : l.length ≤ maxLen) (hs : Sl w a (vBs l)) :
    Calls Try.prog 20 #[.int .u64 (U64 r), .slice a l.length cap] w fun e w' => e = .returned (.int .u64 (U64 (updB r l))) ∧ w = w' := by
  unfold maxLen at hl
  have HS := Lib.hid hs
  have HU := Lib.hid (show updB r l = takeL (r ^^^ 18446744073709551615#64) l ^^^ 18446744073709551615#64 by rw [u64_ones, u64_ones]; rfl)
  clear hs
  go_enter Try.func20, Try.ntmps20
  go_wp2
  go_loop [5, 6] (fun q i => ∃ k : Nat, k ≤ l.length ∧ i = .int .i64 k ∧ q = .int .u64 (U64 (takeL (r ^^^ 18446744073709551615#64) (l.take k)))) (fun _ i => l.length - (intOf i).toNat)
  case atStart => exact ⟨0, by omega, rfl, rfl⟩
  case round =>
    obtain ⟨k, hk, rfl, rfl⟩ := hrel
    by_cases hlt : k < l.length
    · have hne : vBs l ≠ [] := fun h => by have := congrArg List.length h; simp [vBs] at this; subst this; simp at hlt
      obtain ⟨b, off, rfl, hc⟩ := HS.out hne
      have hck := hc k (by rw [vBs_length]; exact hlt)
      rw [vBs_get l k hlt] at hck
      clear hc
      go_wp2_with (go_at_call 37; refine (rtake_any _ _ _).mono ?_; rintro e w' ⟨rfl, rfl⟩)
      go_round
      case rel => exact ⟨k + 1, by omega, by go_num, by rw [takeL_snoc _ l k hlt]⟩
      case measure => simp [intOf]; omega
    · have hf : decide ((k : Int) < (l.length : Int)) = false := by simp; omega
      have HK := Lib.hid (show l.take k = l by rw [List.take_of_length_le (by omega)])
      go_wp2
      go_ret
      exact ⟨by rw [HU.out, HK.out]; rfl, rfl⟩
theorem rsum_any (a : Option Addr) (cap : Nat) (l : List (BitVec 8)) (w : World) (hl : l.length ≤ maxLen) (hs : Sl w a (vBs l)) :
    Calls Try.prog 18 #[.slice a l.length cap] w fun e w' => e = .returned (.int .u64 (U64 (updB 0#64 l))) ∧ w = w' := by
  have HS := Lib.hid hs
  clear hs
  go_enter Try.func18, Try.ntmps18
  go_wp2_with fail
  refine (rupdate_any 0#64 a cap l _ hl HS.out).mono ?_
  rintro e w1 ⟨rfl, rfl⟩
  go_wp2
  go_ret
  exact ⟨rfl, rfl⟩
theorem through_any (m : Nat → BitVec 64) (r : BitVec 64) (w : World) : Calls Try.prog 45 #[.agg (matRow m), .int .u64 (U64 r)] w fun e w' => e = .returned (.int .u64 (U64 (ofM m r))) ∧ w' = w.alloc (.cells (matRow m) 64) := by
  go_enter Try.func45, Try.ntmps45
  go_wp2
  have HG := Lib.hid (show (w.alloc (.cells (matRow m) 64)).heap[w.heap.size]? = some (.cells (matRow m) 64) from heap_alloc_new _ _)
  refine wp_world (fun W => W = w.alloc (.cells (matRow m) 64) ∧ W.heap[w.heap.size]? = some (.cells (matRow m) 64)) ⟨rfl, HG.out⟩ ?_
  clear HG
  intro W ⟨hW, hg⟩
  have HW := Lib.hid hW
  have HG := Lib.hid hg
  have hz := (Array.getElem?_eq_some_iff.1 hg).1
  clear hW hg
  go_loop [5, 6] (fun o i => ∃ k : Nat, k ≤ 64 ∧ i = .int .i64 k ∧ o = .int .u64 (U64 (ofFrom m r k))) (fun _ i => 64 - (intOf i).toNat)
  case atStart => exact ⟨0, by omega, rfl, rfl⟩
  case round =>
    obtain ⟨k, hk, rfl, rfl⟩ := hrel
    by_cases hlt : k < 64
    · have hu := U64_ofNat k (by omega)
      have hs := shr_pow r k
      have hc : W.cell? ⟨w.heap.size, k, none⟩ = some (.int .u64 (U64 (m k))) := by rw [cell_of_row _ _ _ _ _ _ HG.out, matRow_get _ _ hlt]
      have HA := Lib.hid (and1_cases (r >>> k))
      have HM := Lib.hid (mask_bit (r >>> k))
      by_cases hb : (r >>> k).getLsbD 0 = true
      · have ht : (U64 ((r >>> k) &&& 1#64) == 1) = true := by rw [HA.out, hb]; rfl
        have HF := Lib.hid (show ofFrom m r (k + 1) = ofFrom m r k ^^^ m k by rw [ofFrom, HM.out, if_pos hb, BitVec.and_allOnes])
        clear HA HM hb
        go_wp2
        go_round
        case rel => exact ⟨k + 1, by omega, by go_num, by rw [HF.out]⟩
        case measure => simp [intOf]; omega
      · have ht : (U64 ((r >>> k) &&& 1#64) == 1) = false := by rw [HA.out, if_neg hb]; rfl
        have HF := Lib.hid (show ofFrom m r (k + 1) = ofFrom m r k by rw [ofFrom, HM.out, if_neg hb]; simp)
        clear HA HM hb
        go_wp2
        go_round
        case rel => exact ⟨k + 1, by omega, by go_num, by rw [HF.out]⟩
        case measure => simp [intOf]; omega
    · obtain rfl : k = 64 := by omega
      go_wp2
      go_ret
      exact ⟨rfl, HW.out⟩
theorem rzeros_any (a : BitVec 64) (n : Nat) (w : World) (h : n < 9223372036854775808) :
    Calls Try.prog 40 #[.int .u64 (U64 a), .int .i64 n] w fun e w' => e = .returned (.int .u64 (U64 (joinRest a M0 n))) ∧ Below w.heap.size w w' := by
  go_enter Try.func40, Try.ntmps40
  go_wp2
  refine wp_world (fun W => Below w.heap.size w W ∧ W.heap[w.heap.size]? = some (.cells (matRow (upTo 0 M0)) 64)) ⟨(Below.refl _ _).alloc (Nat.le_refl _) _, heap_alloc_new _ _⟩ ?_
  intro W ⟨hB, hg⟩
  have HB := Lib.hid hB
  have HG := Lib.hid hg
  clear hB hg
  go_loopw [6] (fun i wr => ∃ k : Nat, k ≤ 64 ∧ i = .int .i64 k ∧ Below w.heap.size w wr ∧ wr.heap[w.heap.size]? = some (.cells (matRow (upTo k M0)) 64)) (fun i _ => 64 - (intOf i).toNat)
  case atStart => exact ⟨0, by omega, rfl, HB.out, HG.out⟩
  case round =>
    clear HB HG
    obtain ⟨k, hk, rfl, hB, hg⟩ := hrel
    have HB := Lib.hid hB
    have HG := Lib.hid hg
    have hc1 : wr.cell? ⟨w.heap.size, k, none⟩ = (matRow (upTo k M0))[k]? := by rw [cell_of_row _ _ _ _ _ _ hg]
    have hf1 := frozen_of_row _ _ k _ _ hg
    clear hB hg
    by_cases hlt : k < 64
    · have hb : decide ((k : Int) < 64) = true := by simp; omega
      have hu := U64_ofNat k (by omega)
      rw [matRow_get _ _ hlt] at hc1
      go_wp2_with (go_at_call 37; (try rw [show (Value.int IntKind.u8 0) = .int .u8 (U8 0#8) from rfl]); refine (rtake_any _ 0#8 _).mono ?_; rintro e w' ⟨rfl, rfl⟩)
      go_roundw
      case rel =>
        refine ⟨k + 1, by omega, by go_num, HB.out.setCell (Nat.le_refl _) _, ?_⟩
        rw [heap_setCell_same _ _ _ _ _ _ HG.out]
        show some (Obj.cells ((matRow (upTo k M0)).setIfInBounds k (.int .u64 (U64 (M0 k)))) 64 (0, 0)) = _
        rw [matRow_set, upTo_set]
      case measure => simp [intOf]; omega
    · have hbk : decide ((k : Int) < 64) = false := by simp; omega
      have HG' := Lib.hid (show wr.heap[w.heap.size]? = some (.cells (matRow M0) 64) by have e := HG.out; rw [show k = 64 by omega, matRow_upTo] at e; exact e)
      clear HG hc1
      go_wp2
      refine wp_world (fun W => Below w.heap.size w W ∧ W.heap[w.heap.size]? = some (.cells (matRow M0) 64)) ⟨HB.out, HG'.out⟩ ?_
      clear HB HG' hlt hk hf1
      intro W1 ⟨hB, hg⟩
      have HB := Lib.hid hB
      have HG := Lib.hid hg
      clear hB hg
      go_loopw [0, 1] (fun p q wr => ∃ (x : BitVec 64) (j : Nat) (m : Nat → BitVec 64), j ≤ n ∧ q = .int .i64 j ∧ p = .int .u64 (U64 x) ∧ joinRest x m j = joinRest a M0 n ∧ Below w.heap.size w wr ∧ wr.heap[w.heap.size]? = some (.cells (matRow m) 64)) (fun _ q _ => (intOf q).toNat)
      case atStart => exact ⟨a, n, M0, Nat.le_refl _, rfl, rfl, rfl, HB.out, HG.out⟩
      case round =>
        clear HB HG
        obtain ⟨x, j, m, hj, rfl, rfl, hr, hB, hg⟩ := hrel
        have HR := Lib.hid hr
        have HB := Lib.hid hB
        have HG := Lib.hid hg
        clear hB hg hr
        by_cases hpos : 0 < j
        · have hb : decide ((0 : Int) < (j : Int)) = true := by simp; omega
          have hz := (Array.getElem?_eq_some_iff.1 HG.out).1
          obtain ⟨y, hy⟩ : ∃ y, y = (if j % 2 = 1 then ofM m x else x) := ⟨_, rfl⟩
          have HY := Lib.hid hy
          have HR' := Lib.hid (show joinRest y (sqM m) (j / 2) = joinRest a M0 n by rw [hy, ← HR.out]; conv => rhs; rw [joinRest, if_neg (by omega)])
          clear HR hy
          refine wp_world (fun W => w.heap.size < wr.heap.size ∧ Below w.heap.size w W ∧ W.heap[w.heap.size]? = some (.cells (matRow m) 64)) ⟨hz, HB.out, HG.out⟩ ?_
          clear HB HG hz
          intro W2 ⟨hz0, hB, hg⟩
          have hz := (Array.getElem?_eq_some_iff.1 hg).1
          have HB := Lib.hid hB
          have HG := Lib.hid hg
          clear hB hg
          by_cases hodd : j % 2 = 1
          case' pos =>
            have hy1 : y = ofM m x := by rw [HY.out, if_pos hodd]
            have hb1 : ((j : Int) % 2 == 1) = true := by rw [show (j : Int) % 2 = 1 by omega]; rfl
            clear HY hodd
            subst hy1
            go_wp2_with (refine wpList_load_row rfl 64 _ rfl w.heap.size rfl 64 (matRow m) _ _ HG.out Try.underlying64 rfl (by rw [matRow_size]; kernel_rfl) ?_)
            refine (through_any m x _).mono ?_
            rintro e w1 ⟨rfl, rfl⟩
            have HB1 := Lib.hid (HB.out.alloc HB.out.size (.cells (matRow m) 64))
            have HG1 := Lib.hid (show (W2.alloc (.cells (matRow m) 64)).heap[w.heap.size]? = some (.cells (matRow m) 64) by rw [heap_alloc_old _ _ hz]; exact HG.out)
            have hz1 : w.heap.size < (W2.alloc (.cells (matRow m) 64)).heap.size := by simp; omega
            clear HB HG
            generalize W2.alloc (.cells (matRow m) 64) = W3 at *
          case' neg =>
            have hy1 : x = y := by rw [HY.out, if_neg hodd]
            have hb1 : ((j : Int) % 2 == 1) = false := by rw [show (j : Int) % 2 = 0 by omega]; rfl
            clear HY hodd
            subst hy1
            have HB1 := Lib.hid HB.out
            have HG1 := Lib.hid HG.out
            have hz1 := hz
            clear HB HG
            obtain ⟨W3, rfl⟩ : ∃ W3, W3 = W2 := ⟨_, rfl⟩
          all_goals
            go_wp2
            refine wp_world (fun W => Below w.heap.size w W ∧ w.heap.size < W3.heap.size ∧ W.heap[w.heap.size]? = some (.cells (matRow m) 64) ∧ W.heap[W3.heap.size]? = some (.cells (matRow (upTo 0 (sqM m))) 64))
              ⟨HB1.out.alloc HB1.out.size _, hz1, by rw [heap_alloc_old _ _ hz1]; exact HG1.out, heap_alloc_new _ _⟩ ?_
            clear HB1 HG1 hz1
            intro W4 ⟨hB, hz3, hg, hg2⟩
            have HB := Lib.hid hB
            have HG := Lib.hid hg
            have HG2 := Lib.hid hg2
            clear hB hg hg2
            obtain ⟨wo, rfl⟩ : ∃ wo : World, wo = wr := ⟨_, rfl⟩
            go_loopw [8] (fun i wr => ∃ k : Nat, k ≤ 64 ∧ i = .int .i64 k ∧ Below w.heap.size w wr ∧ wr.heap[w.heap.size]? = some (.cells (matRow m) 64) ∧ wr.heap[W3.heap.size]? = some (.cells (matRow (upTo k (sqM m))) 64)) (fun i _ => 64 - (intOf i).toNat)
            case atStart => exact ⟨0, by omega, rfl, HB.out, HG.out, HG2.out⟩
            case round =>
              clear HB HG HG2
              obtain ⟨k, hk, rfl, hB, hg, hg2⟩ := hrel
              have HB := Lib.hid hB
              have HG := Lib.hid hg
              have HG2 := Lib.hid hg2
              by_cases hlt : k < 64
              · have hbk : decide ((k : Int) < 64) = true := by simp; omega
                have hzr := (Array.getElem?_eq_some_iff.1 hg).1
                have hzr2 := (Array.getElem?_eq_some_iff.1 hg2).1
                have hc1 : ∀ i, i < 64 → wr.cell? ⟨w.heap.size, i, none⟩ = some (.int .u64 (U64 (m i))) := fun i hi => by rw [cell_of_row _ _ _ _ _ _ hg, matRow_get _ _ hi]
                have hc2 : wr.cell? ⟨W3.heap.size, k, none⟩ = some (.int .u64 (U64 (upTo k (sqM m) k))) := by rw [cell_of_row _ _ _ _ _ _ hg2, matRow_get _ _ hlt]
                have hf2 := frozen_of_row _ _ k _ _ hg2
                have hck := hc1 k hlt
                clear hB hg hg2
                have HC := Lib.hid hc1
                clear hc1
                go_wp2_with fail
                refine wp_region_inv 6 (fun W => Below wr.heap.size wr W) (by kernel_rfl) (by kernel_rfl) (fun _ => ⟨rfl, rfl, rfl, Nat.le_refl _, fun _ _ => rfl⟩) ?_
                simp only [List.take_succ_cons, List.take_zero]
                have hltI : (k : Int) < 64 := by omega
                have HCELL := Lib.hid (show ∀ W, Below wr.heap.size wr W → W.cell? ⟨w.heap.size, k, none⟩ = some (.int .u64 (U64 (m k))) from fun W hW => (hW.cell (p := ⟨w.heap.size, k, none⟩) hzr).trans hck)
                have HROW := Lib.hid (show ∀ W, Below wr.heap.size wr W → W.heap[w.heap.size]? = some (.cells (matRow m) 64) from fun W hW => (hW.block _ hzr).trans HG.out)
                refine wpInv_cons (.int .i64 k) rfl (fun w hw => ⟨hw, rfl⟩) ?_
                refine wpInv_cons (.agg (matRow m)) rfl (fun w hw => inv_load_row 64 _ rfl _ rfl 64 _ _ _ (HROW.out w hw) Try.underlying64 rfl (by rw [matRow_size]; kernel_rfl) hw) ?_
                refine wpInv_cons (.int .i64 k) rfl (fun w hw => ⟨hw, rfl⟩) ?_
                refine wpInv_cons (.pointer (some ⟨w.heap.size, k, none⟩)) rfl (fun Wx hw => ?_) ?_
                · go_simp
                  exact ⟨hw, rfl⟩
                refine wpInv_cons (.int .u64 (U64 (m k))) rfl (fun Wx hw => ?_) ?_
                · have hcw := HCELL.out Wx hw
                  go_simp
                  exact ⟨hw, rfl⟩
                refine wpInv_cons (.int .u64 (U64 (ofM m (m k)))) rfl (fun Wx hw => ?_) ?_
                · go_simp
                  refine (through_any m (m k) _).mono ?_
                  rintro e w' ⟨rfl, rfl⟩
                  exact ⟨rfl, hw.alloc hw.size _⟩
                refine wpInv_nil fun W hW => ?_
                simp only [Act.put, List.setIfInBounds_toArray, List.set_cons_zero, List.set_cons_succ, List.drop_succ_cons, List.drop_zero]
                have hc2' := (hW.cell (p := ⟨W3.heap.size, k, none⟩) hzr2).trans hc2
                have hf2' := (hW.frozen (p := ⟨W3.heap.size, k, none⟩) hzr2).trans hf2
                have HBW := Lib.hid (HB.out.trans (hW.mono HB.out.size))
                have HGW := Lib.hid ((hW.block _ hzr).trans HG.out)
                have HG2W := Lib.hid ((hW.block _ hzr2).trans HG2.out)
                clear hW hc2 hf2 hck
                go_wp2
                go_roundw
                case rel =>
                  refine ⟨k + 1, by omega, by go_num, HBW.out.setCell (Nat.le_of_lt (by assumption)) _, ?_, ?_⟩
                  · rw [heap_setCell_other _ _ _ _ (by show w.heap.size ≠ W3.heap.size; omega)]; exact HGW.out
                  · rw [heap_setCell_same _ _ _ _ _ _ HG2W.out]
                    show some (Obj.cells ((matRow (upTo k (sqM m))).setIfInBounds k (.int .u64 (U64 (sqM m k)))) 64 (0, 0)) = _
                    rw [matRow_set, upTo_set]
                case measure => simp [intOf]; omega
              · have hbk : decide ((k : Int) < 64) = false := by simp; omega
                have HG2' := Lib.hid (show wr.heap[W3.heap.size]? = some (.cells (matRow (sqM m)) 64) by have e := hg2; rw [show k = 64 by omega, matRow_upTo] at e; exact e)
                clear hB hg hg2
                go_wp2_with (first | (refine wpList_load_row rfl 64 _ rfl W3.heap.size rfl 64 (matRow (sqM m)) _ _ HG2'.out Try.underlying64 rfl (by rw [matRow_size]; kernel_rfl) ?_) | (refine wpList_store_row rfl 64 _ _ rfl w.heap.size (matRow (sqM m)) rfl rfl 64 (matRow m) HG.out (by rw [matRow_size]; kernel_rfl) (by rw [matRow_size, matRow_size]) (matRow_one _) ?_))
                go_roundw
                case rel =>
                  refine ⟨_, j / 2, sqM m, by omega, by go_num, rfl, HR'.out, below_setRow HB.out (Nat.le_refl _) _, setRow_heap _ _ _ _ _ _ HG.out⟩
                case measure => simp [intOf]; omega
        · obtain rfl : j = 0 := by omega
          have HF := Lib.hid (show joinRest a M0 n = x by rw [← HR.out, joinRest]; rfl)
          clear HR
          go_wp2
          go_ret
          exact ⟨by rw [HF.out]; rfl, HB.out⟩
end Go.Proofs.Ytdphcmmpkacmfaa
