/-
  Layer 5: Forge and the stream, as the program has them.
-/
import Derived.Test.YtdphcmmpkacmfaaWb
namespace Go.Proofs.Ytdphcmmpkacmfaa
open Go.RowKit Go.K
attribute [local go_sem] xor_U64 and_U64 or_U64 wrap_U64 wrap_U8 ofInt_add64 ofInt_mul64 ofInt_neg64 shr_U64_1 shr_U64_4 U64_ofInt U8_ofInt64 u64_signed u64_compl

def backN : Nat → BitVec 64 → BitVec 64 | 0, x => x | n + 1, x => backB (backN n x)
/-- What Forge writes out. -/
def forgeX (b : List (BitVec 8)) (want : BitVec 64) : BitVec 64 := backN 64 (~~~ want) ^^^ takeL 18446744073709551615#64 b
def byteAt (x : BitVec 64) (i : Nat) : BitVec 8 := BitVec.ofInt 8 (U64 x / 2 ^ (8 * i))
def outRow (x : BitVec 64) (k : Nat) : Array Value := ((List.range 8).map fun j => Value.int .u8 (if j < k then U8 (byteAt x j) else 0)).toArray
theorem outRow_size (x : BitVec 64) (k : Nat) : (outRow x k).size = 8 := by simp [outRow]
theorem outRow_get (x : BitVec 64) (k j : Nat) (hj : j < 8) : (outRow x k)[j]? = some (.int .u8 (if j < k then U8 (byteAt x j) else 0)) := by
  simp [outRow, hj]
theorem outRow_set (x : BitVec 64) (k : Nat) (hk : k < 8) : (outRow x k).setIfInBounds k (.int .u8 (U8 (byteAt x k))) = outRow x (k + 1) := by
  apply Array.ext_getElem?
  intro i
  rw [Array.getElem?_setIfInBounds]
  by_cases hi : i < 8
  · rw [outRow_get _ _ _ hi, outRow_get _ _ _ hi, outRow_size]
    by_cases e : k = i
    · subst e; simp [hk]
    · have : (i < k + 1) = (i < k) := by apply propext; omega
      simp [e, this]
  · have : k ≠ i := by omega
    simp [this, outRow, hi]
theorem outRow_one (x : BitVec 64) (k : Nat) : (outRow x k).all (·.oneCell') = true := by
  rw [Array.all_eq_true]
  intro i hi
  have := outRow_get x k i (by simpa [outRow_size] using hi)
  rw [Array.getElem?_eq_getElem hi] at this
  injection this with this
  rw [this]; rfl
theorem forge_any (r : BitVec 64) (a : Option Addr) (cap : Nat) (l : List (BitVec 8)) (w : World) (hl : l.length ≤ maxLen) (hs : Sl w a (vBs l)) :
    Calls Try.prog 21 #[.slice a l.length cap, .int .u64 (U64 r)] w fun e w' => e = .returned (.agg (outRow (forgeX l r) 8)) ∧ Below w.heap.size w w' := by
  have HS := Lib.hid (show Sl (w.alloc (.cells #[.int .u8 0, .int .u8 0, .int .u8 0, .int .u8 0, .int .u8 0, .int .u8 0, .int .u8 0, .int .u8 0] 37)) a (vBs l) from hs.kept ((Below.refl _ _).alloc (Nat.le_refl _) _))
  clear hs
  go_enter Try.func21, Try.ntmps21
  go_wp2
  go_loop [5, 10] (fun q i => ∃ k : Nat, k ≤ 64 ∧ i = .int .i64 k ∧ q = .int .u64 (U64 (backN k (~~~ r)))) (fun _ i => 64 - (intOf i).toNat)
  case atStart => exact ⟨0, by omega, rfl, rfl⟩
  case round =>
    obtain ⟨k, hk, rfl, rfl⟩ := hrel
    by_cases hlt : k < 64
    · go_wp2_with (go_at_call 38; refine (back_any _ _).mono ?_; rintro e w' ⟨rfl, rfl⟩)
      go_round
      case rel => exact ⟨k + 1, by omega, by go_num, rfl⟩
      case measure => simp [intOf]; omega
    · obtain rfl : k = 64 := by omega
      go_wp2_with fail
      rw [show (18446744073709551615 : Int) = U64 18446744073709551615#64 from rfl]
      refine (take_any _ a cap l _ hl HS.out).mono ?_
      rintro e w1 ⟨rfl, hb⟩
      have hz := hb.size
      have HZ := Lib.hid (show w.heap.size < w1.heap.size by simp at hz; omega)
      have HG := Lib.hid (show w1.heap[w.heap.size]? = _ from (hb.block _ (by simp)).trans (heap_alloc_new _ _))
      have HB := Lib.hid (((Below.refl _ _).alloc (Nat.le_refl _) _).trans (hb.mono (by simp)))
      clear hz hb
      go_wp2
      refine wp_world (fun W => Below w.heap.size w W ∧ w.heap.size < w1.heap.size ∧ W.heap[w.heap.size]? = some (.cells (outRow 0#64 0) 37) ∧ W.heap[w1.heap.size]? = some (.cells (outRow (forgeX l r) 0) 37))
        ⟨HB.out.alloc HB.out.size _, HZ.out, by rw [heap_alloc_old _ _ HZ.out]; exact HG.out, heap_alloc_new _ _⟩ ?_
      clear HB HG HZ
      intro W ⟨hB, hz, hg0, hg1⟩
      have HB := Lib.hid hB
      have HG0 := Lib.hid hg0
      have HG1 := Lib.hid hg1
      have HX := Lib.hid (show forgeX l r = backN 64 (~~~ r) ^^^ takeL 18446744073709551615#64 l from rfl)
      clear hB hg0 hg1
      go_loopw [19] (fun i wr => ∃ k : Nat, k ≤ 8 ∧ i = .int .i64 k ∧ Below w.heap.size w wr ∧ wr.heap[w.heap.size]? = some (.cells (outRow 0#64 0) 37) ∧ wr.heap[w1.heap.size]? = some (.cells (outRow (forgeX l r) k) 37)) (fun i _ => 8 - (intOf i).toNat)
      case atStart => exact ⟨0, by omega, rfl, HB.out, HG0.out, HG1.out⟩
      case round =>
        clear HB HG0 HG1
        obtain ⟨k, hk, rfl, hB, hg0, hg1⟩ := hrel
        by_cases hlt : k < 8
        · have hc1 : wr.cell? ⟨w1.heap.size, k, none⟩ = some (.int .u8 (if k < k then U8 (byteAt (forgeX l r) k) else 0)) := by rw [cell_of_row _ _ _ _ _ _ hg1, outRow_get _ _ _ hlt]
          rw [if_neg (Nat.lt_irrefl k)] at hc1
          have hf1 := frozen_of_row _ _ k _ _ hg1
          have HB := Lib.hid hB
          have HG0 := Lib.hid hg0
          have HG1 := Lib.hid hg1
          have HV := Lib.hid (show U8 (byteAt (forgeX l r) k) = U8 (BitVec.ofInt 8 (U64 (backN 64 (~~~ r) ^^^ takeL 18446744073709551615#64 l) / 2 ^ (8 * k))) by rw [← HX.out]; rfl)
          clear hB hg0 hg1
          go_wp2
          go_roundw
          case rel =>
            refine ⟨k + 1, by omega, by go_num, HB.out.setCell (Nat.le_of_lt (by assumption)) _, ?_, ?_⟩
            · rw [heap_setCell_other _ _ _ _ (by show w.heap.size ≠ w1.heap.size; omega)]; exact HG0.out
            · rw [heap_setCell_same _ _ _ _ _ _ HG1.out]
              rw [← HV.out, outRow_set _ _ hlt]
          case measure => simp [intOf]; omega
        · have HB := Lib.hid hB
          have HG0 := Lib.hid hg0
          have hbk : decide ((k : Int) < 8) = false := by simp; omega
          have HG1 := Lib.hid (show wr.heap[w1.heap.size]? = some (.cells (outRow (forgeX l r) 8) 37) by rw [hg1, show k = 8 by omega])
          clear hB hg0 hg1
          go_wp2_with (first | (refine wpList_load_row rfl 37 _ rfl w1.heap.size rfl 37 (outRow (forgeX l r) 8) _ _ HG1.out Try.underlying37 rfl (by rw [outRow_size]; kernel_rfl) ?_) | (refine wpList_store_row rfl 37 _ _ rfl w.heap.size (outRow (forgeX l r) 8) rfl rfl 37 (outRow 0#64 0) HG0.out (by rw [outRow_size]; kernel_rfl) (by rw [outRow_size, outRow_size]) (outRow_one _ _) ?_))
          refine bodyPost_ret (v := .agg (outRow (forgeX l r) 8)) (results_cell_row rfl _ _ w.heap.size 37 _ _ _ rfl (setRow_heap _ _ _ _ _ _ HG0.out) Try.underlying37 rfl (by rw [outRow_size]; kernel_rfl)) rfl ⟨rfl, ?_⟩
          exact below_setRow HB.out (Nat.le_refl _) _

/-! ### The stream -/
/-- What lies behind a stream's pointer. -/
def strRow (s : BitVec 64) (n : Nat) : Array Value := #[.int .u64 (U64 s), .int .i64 n]
theorem new_any (w : World) : Calls Try.prog 25 #[] w fun e w' => e = .returned (.pointer (some ⟨w.heap.size, 0, none⟩)) ∧ w' = w.alloc (.cells (strRow 0#64 0) 71) := by
  go_enter Try.func25, Try.ntmps25
  go_wp2
  go_ret
  exact ⟨rfl, rfl⟩
theorem ssum_nil (w : World) : Calls Try.prog 32 #[.pointer none] w fun e w' => e = .returned (.int .u64 0) ∧ w = w' := by
  have hb : ∀ w, (binOp .eql 45 (.pointer none) (.pointer none)).run Try.prog w = .ok (.bool true) w := fun _ => by kernel_rfl
  go_enter Try.func32, Try.ntmps32
  go_wp2
  go_ret
  exact ⟨rfl, rfl⟩
theorem ssum_any (g : Nat) (s : BitVec 64) (n : Nat) (w : World) (hg : w.heap[g]? = some (.cells (strRow s n) 71)) :
    Calls Try.prog 32 #[.pointer (some ⟨g, 0, none⟩)] w fun e w' => e = .returned (.int .u64 (U64 s)) ∧ w = w' := by
  have h0 : w.cell? ⟨g, 0, none⟩ = some (.int .u64 (U64 s)) := by rw [cell_of_row _ _ _ _ _ _ hg]; rfl
  clear hg
  go_enter Try.func32, Try.ntmps32
  go_wp2
  go_ret
  exact ⟨rfl, rfl⟩
theorem slen_nil (w : World) : Calls Try.prog 33 #[.pointer none] w fun e w' => e = .returned (.int .i64 0) ∧ w = w' := by
  have hb : ∀ w, (binOp .eql 45 (.pointer none) (.pointer none)).run Try.prog w = .ok (.bool true) w := fun _ => by kernel_rfl
  go_enter Try.func33, Try.ntmps33
  go_wp2
  go_ret
  exact ⟨rfl, rfl⟩
theorem slen_any (g : Nat) (s : BitVec 64) (n : Nat) (w : World) (hg : w.heap[g]? = some (.cells (strRow s n) 71)) :
    Calls Try.prog 33 #[.pointer (some ⟨g, 0, none⟩)] w fun e w' => e = .returned (.int .i64 n) ∧ w = w' := by
  have h0 : w.cell? ⟨g, 1, none⟩ = some (.int .i64 n) := by rw [cell_of_row _ _ _ _ _ _ hg]; rfl
  clear hg
  go_enter Try.func33, Try.ntmps33
  go_wp2
  go_ret
  exact ⟨rfl, rfl⟩
theorem write_nil (a : Option Addr) (len cap : Nat) (w : World) : Calls Try.prog 28 #[.pointer none, .slice a len cap] w fun e w' => e = .returned (.int .i64 1) ∧ w = w' := by
  have hb : ∀ w, (binOp .eql 45 (.pointer none) (.pointer none)).run Try.prog w = .ok (.bool true) w := fun _ => by kernel_rfl
  go_enter Try.func28, Try.ntmps28
  go_wp2
  go_ret
  exact ⟨rfl, rfl⟩
theorem write_over (g : Nat) (s : BitVec 64) (n : Nat) (a : Option Addr) (len cap : Nat) (w : World) (hg : w.heap[g]? = some (.cells (strRow s n) 71)) (hn : n ≤ 9223372036854775807) (h : 9223372036854775807 < len + n) :
    Calls Try.prog 28 #[.pointer (some ⟨g, 0, none⟩), .slice a len cap] w fun e w' => e = .returned (.int .i64 2) ∧ w = w' := by
  have h0 : w.cell? ⟨g, 1, none⟩ = some (.int .i64 n) := by rw [cell_of_row _ _ _ _ _ _ hg]; rfl
  have ht : (9223372036854775807 : Int) - (n : Int) < (len : Int) := by omega
  clear hg
  go_enter Try.func28, Try.ntmps28
  go_wp2
  go_ret
  exact ⟨rfl, rfl⟩
end Go.Proofs.Ytdphcmmpkacmfaa
