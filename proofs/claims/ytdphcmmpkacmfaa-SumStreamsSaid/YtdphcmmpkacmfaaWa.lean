/-
  Layer 5: what the program's inner functions compute: a step, the table of half bytes, bytes taken into a number, a step back.
-/
import Derived.Test.YtdphcmmpkacmfaaRows
import Derived.Test.YtdphcmmpkacmfaaKit
namespace Go.Proofs.Ytdphcmmpkacmfaa
open Go.RowKit Go.K
attribute [local go_sem] xor_U64 and_U64 or_U64 wrap_U64 ofInt_add64 ofInt_mul64 ofInt_neg64 shr_U64_1 shr_U64_4 U64_ofInt U8_ofInt64 u64_signed u64_compl

def stepB (n : BitVec 64) : BitVec 64 := n >>> 1 ^^^ (14514072000185962306#64 &&& -(n &&& 1#64))
theorem step_any (n : BitVec 64) (w : World) : Calls Try.prog 46 #[.int .u64 (U64 n)] w fun e w' => e = .returned (.int .u64 (U64 (stepB n))) ∧ w = w' := by
  go_enter Try.func46, Try.ntmps46
  go_wp2
  go_ret
  exact ⟨rfl, rfl⟩
def iterB : Nat → BitVec 64 → BitVec 64 | 0, x => x | n + 1, x => stepB (iterB n x)
def tabRow (k : Nat) : Array Value := ((List.range 16).map fun j => Value.int .u64 (if j < k then U64 (iterB 4 (BitVec.ofNat 64 j)) else 0)).toArray
theorem tabRow_size (k : Nat) : (tabRow k).size = 16 := by simp [tabRow]
theorem tabRow_get (k j : Nat) (hj : j < 16) : (tabRow k)[j]? = some (.int .u64 (if j < k then U64 (iterB 4 (BitVec.ofNat 64 j)) else 0)) := by
  simp [tabRow, hj]
theorem tabRow_set (k : Nat) (hk : k < 16) : (tabRow k).setIfInBounds k (.int .u64 (U64 (iterB 4 (BitVec.ofNat 64 k)))) = tabRow (k + 1) := by
  apply Array.ext_getElem?
  intro i
  rw [Array.getElem?_setIfInBounds]
  by_cases hi : i < 16
  · rw [tabRow_get _ _ hi, tabRow_get _ _ hi, tabRow_size]
    by_cases e : k = i
    · subst e; simp [hk]
    · have : (i < k + 1) = (i < k) := by apply propext; omega
      simp [e, this]
  · have : k ≠ i := by omega
    simp [this, tabRow, hi]
theorem tabRow_zero : tabRow 0 = #[Value.int IntKind.u64 0, Value.int IntKind.u64 0, Value.int IntKind.u64 0, Value.int IntKind.u64 0,
          Value.int IntKind.u64 0, Value.int IntKind.u64 0, Value.int IntKind.u64 0, Value.int IntKind.u64 0,
          Value.int IntKind.u64 0, Value.int IntKind.u64 0, Value.int IntKind.u64 0, Value.int IntKind.u64 0,
          Value.int IntKind.u64 0, Value.int IntKind.u64 0, Value.int IntKind.u64 0, Value.int IntKind.u64 0] := rfl
theorem table_any (w : World) : Calls Try.prog 43 #[] w fun e w' => e = .returned (.agg (tabRow 16)) ∧ Below w.heap.size w w' := by
  go_enter Try.func43, Try.ntmps43
  go_wp2
  rw [← tabRow_zero]
  go_loopw [4] (fun i wr => ∃ k : Nat, k ≤ 16 ∧ i = .int .i64 k ∧ wr = (w.alloc (.cells (tabRow 0) 74)).alloc (.cells (tabRow k) 74)) (fun i _ => 16 - (intOf i).toNat)
  case atStart => exact ⟨0, by omega, rfl, rfl⟩
  case round =>
    obtain ⟨k, hk, rfl, rfl⟩ := hrel
    by_cases hlt : k < 16
    · have hb : decide ((k : Int) < 16) = true := by simp; omega
      have hg := tabRow_get k k hlt
      go_wp2
      go_loop [3, 9] (fun r j => ∃ n : Nat, n ≤ 4 ∧ j = .int .i64 n ∧ r = .int .u64 (U64 (iterB n (BitVec.ofNat 64 k)))) (fun _ j => 4 - (intOf j).toNat)
      case atStart => exact ⟨0, by omega, rfl, rfl⟩
      case round =>
        obtain ⟨n, hn, rfl, rfl⟩ := hrel
        by_cases hlt2 : n < 4
        · go_wp2_with (go_at_call 46; refine (step_any _ _).mono ?_; rintro e w' ⟨rfl, rfl⟩)
          go_round
          case rel => exact ⟨n + 1, by omega, by go_num, rfl⟩
          case measure => simp [intOf]; omega
        · obtain rfl : n = 4 := by omega
          go_wp2
          go_roundw
          case rel => exact ⟨k + 1, by omega, by go_num, by simp [tabRow_set k hlt]⟩
          case measure => simp [intOf]; omega
    · obtain rfl : k = 16 := by omega
      have HW0 := Lib.hid (show ((w.alloc (.cells (tabRow 0) 74)).alloc (.cells (tabRow 16) 74)).heap[w.heap.size + 1]? = some (.cells (tabRow 16) 74) from heap_alloc2_new _ _ _)
      have HW1 := Lib.hid (show ((w.alloc (.cells (tabRow 0) 74)).alloc (.cells (tabRow 16) 74)).heap[w.heap.size]? = some (.cells (tabRow 0) 74) from heap_alloc2_old _ _ _)
      go_wp2_with (first | (refine wpList_load_row rfl 74 _ rfl (w.heap.size + 1) rfl 74 (tabRow 16) _ _ HW0.out Try.underlying74 rfl (by kernel_rfl) ?_) | (refine wpList_store_row rfl 74 _ _ rfl w.heap.size (tabRow 16) rfl rfl 74 (tabRow 0) HW1.out (by kernel_rfl) rfl (by kernel_rfl) ?_))
      refine bodyPost_ret (v := .agg (tabRow 16)) (results_cell_row rfl _ _ w.heap.size 74 _ _ _ rfl (setRow_heap _ _ _ _ _ _ HW1.out) Try.underlying74 rfl (by kernel_rfl)) rfl ⟨rfl, ?_⟩
      exact below_setRow (((Below.refl _ _).alloc (Nat.le_refl _) _).alloc (by simp) _) (Nat.le_refl _) _

def takeC (r : BitVec 64) (c : BitVec 8) : BitVec 64 :=
  let r := r ^^^ c.setWidth 64
  let r := r >>> 4 ^^^ iterB 4 (r &&& 15#64)
  r >>> 4 ^^^ iterB 4 (r &&& 15#64)
def takeL (r : BitVec 64) (l : List (BitVec 8)) : BitVec 64 := l.foldl takeC r
theorem takeL_snoc (r : BitVec 64) (l : List (BitVec 8)) (k : Nat) (h : k < l.length) : takeL r (l.take (k + 1)) = takeC (takeL r (l.take k)) l[k] := by
  unfold takeL
  rw [List.take_succ_eq_append_getElem h, List.foldl_append]; rfl
theorem cell_tab {w : World} {g : Nat} (hg : w.heap[g]? = some (.cells (tabRow 16) 74)) (r : BitVec 64) :
    w.cell? ⟨g, (U64 (r &&& 15#64)).toNat, none⟩ = some (.int .u64 (U64 (iterB 4 (r &&& 15#64)))) := by
  have h := U64_and_lt r 15
  have h0 := U64_lo (r &&& 15#64)
  rw [cell_of_row w g _ _ _ _ hg, tabRow_get _ _ (by omega), if_pos (by omega)]
  congr 4
  unfold U64
  rw [Int.toNat_natCast, BitVec.ofNat_toNat]
  simp
theorem take_any (r : BitVec 64) (a : Option Addr) (cap : Nat) (l : List (BitVec 8)) (w : World) (hl : l.length ≤ maxLen) (hs : Sl w a (vBs l)) :
    Calls Try.prog 35 #[.int .u64 (U64 r), .slice a l.length cap] w fun e w' => e = .returned (.int .u64 (U64 (takeL r l))) ∧ Below w.heap.size w w' := by
  unfold maxLen at hl
  go_enter Try.func35, Try.ntmps35
  go_wp2_with fail
  refine (table_any _).mono ?_
  rintro e w1 ⟨rfl, hb⟩
  go_wp2_with (refine wpList_store_row rfl 74 _ _ rfl w1.heap.size (tabRow 16) rfl rfl 74 _ (heap_alloc_new _ _) (by kernel_rfl) rfl (by kernel_rfl) ?_)
  refine wp_world (fun W => Below w.heap.size w W ∧ w1.heap.size < W.heap.size ∧ W.heap[w1.heap.size]? = some (.cells (tabRow 16) 74)) ⟨below_setRow (hb.alloc (hb.size) _) hb.size _, by simp, setRow_heap _ _ _ _ _ _ (heap_alloc_new _ _)⟩ ?_
  intro W ⟨hB, hz, hg⟩
  have HG := Lib.hid hg
  have HS := Lib.hid (hs.kept hB)
  clear hg hs hb
  go_loop [0, 11] (fun q i => ∃ k : Nat, k ≤ l.length ∧ i = .int .i64 k ∧ q = .int .u64 (U64 (takeL r (l.take k)))) (fun _ i => l.length - (intOf i).toNat)
  case atStart => exact ⟨0, by omega, rfl, rfl⟩
  case round =>
    obtain ⟨k, hk, rfl, rfl⟩ := hrel
    by_cases hlt : k < l.length
    · have hne : vBs l ≠ [] := fun h => by have := congrArg List.length h; simp [vBs] at this; subst this; simp at hlt
      obtain ⟨b, off, rfl, hc⟩ := HS.out hne
      have hck := hc k (by rw [vBs_length]; exact hlt)
      rw [vBs_get l k hlt] at hck
      have h1 := cell_tab HG.out ((takeL r (l.take k)) ^^^ l[k].setWidth 64)
      have h2 := cell_tab HG.out (((takeL r (l.take k)) ^^^ l[k].setWidth 64) >>> 4 ^^^ iterB 4 (((takeL r (l.take k)) ^^^ l[k].setWidth 64) &&& 15#64))
      have b1 := U64_and_lt ((takeL r (l.take k)) ^^^ l[k].setWidth 64) 15
      have b2 := U64_and_lt (((takeL r (l.take k)) ^^^ l[k].setWidth 64) >>> 4 ^^^ iterB 4 (((takeL r (l.take k)) ^^^ l[k].setWidth 64) &&& 15#64)) 15
      have b3 := U64_lo (((takeL r (l.take k)) ^^^ l[k].setWidth 64) &&& 15#64)
      have b4 := U64_lo ((((takeL r (l.take k)) ^^^ l[k].setWidth 64) >>> 4 ^^^ iterB 4 (((takeL r (l.take k)) ^^^ l[k].setWidth 64) &&& 15#64)) &&& 15#64)
      clear hc
      go_wp2
      go_round
      case rel => exact ⟨k + 1, by omega, by go_num, by rw [takeL_snoc r l k hlt]; rfl⟩
      case measure => simp [intOf]; omega
    · obtain rfl : k = l.length := by omega
      go_wp2
      go_ret
      exact ⟨by simp, hB⟩

def backB (r : BitVec 64) : BitVec 64 := if U64 r / 9223372036854775808 = 1 then (r ^^^ 14514072000185962306#64) * 2#64 ||| 1#64 else r * 2#64
theorem back_any (r : BitVec 64) (w : World) : Calls Try.prog 38 #[.int .u64 (U64 r)] w fun e w' => e = .returned (.int .u64 (U64 (backB r))) ∧ w = w' := by
  by_cases h : U64 r / 9223372036854775808 = 1
  · have hb : (U64 r / 9223372036854775808 == 1) = true := by simp [h]
    have HF := Lib.hid (show backB r = (r ^^^ 14514072000185962306#64) * 2#64 ||| 1#64 from if_pos h)
    clear h
    go_enter Try.func38, Try.ntmps38
    go_wp2
    go_ret
    exact ⟨by rw [HF.out]; rfl, rfl⟩
  · have hb : (U64 r / 9223372036854775808 == 1) = false := by simp [h]
    have HF := Lib.hid (show backB r = r * 2#64 from if_neg h)
    clear h
    go_enter Try.func38, Try.ntmps38
    go_wp2
    go_ret
    exact ⟨by rw [HF.out]; rfl, rfl⟩
def updB (s : BitVec 64) (l : List (BitVec 8)) : BitVec 64 := ~~~ takeL (~~~ s) l
theorem update_any (r : BitVec 64) (a : Option Addr) (cap : Nat) (l : List (BitVec 8)) (w : World) (hl : l.length ≤ maxLen) (hs : Sl w a (vBs l)) :
    Calls Try.prog 19 #[.int .u64 (U64 r), .slice a l.length cap] w fun e w' => e = .returned (.int .u64 (U64 (updB r l))) ∧ Below w.heap.size w w' := by
  have HS := Lib.hid hs
  clear hs
  go_enter Try.func19, Try.ntmps19
  go_wp2_with fail
  refine (take_any _ a cap l _ hl HS.out).mono ?_
  rintro e w1 ⟨rfl, hb⟩
  go_wp2
  go_ret
  exact ⟨rfl, hb⟩
theorem sum_any (a : Option Addr) (cap : Nat) (l : List (BitVec 8)) (w : World) (hl : l.length ≤ maxLen) (hs : Sl w a (vBs l)) :
    Calls Try.prog 16 #[.slice a l.length cap] w fun e w' => e = .returned (.int .u64 (U64 (updB 0#64 l))) ∧ Below w.heap.size w w' := by
  have HS := Lib.hid hs
  clear hs
  go_enter Try.func16, Try.ntmps16
  go_wp2_with fail
  refine (update_any 0#64 a cap l _ hl HS.out).mono ?_
  rintro e w1 ⟨rfl, hb⟩
  go_wp2
  go_ret
  exact ⟨rfl, hb⟩
end Go.Proofs.Ytdphcmmpkacmfaa
