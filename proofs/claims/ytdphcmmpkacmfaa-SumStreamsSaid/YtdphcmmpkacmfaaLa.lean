/-
  Layer 5: the statements' own helpers, walked: num, place, the nine bytes, awake.
-/
import Derived.Test.YtdphcmmpkacmfaaWd
import Derived.Test.YtdphcmmpkacmfaaPa
import Derived.Lib.SlBytesConst
namespace Go.Proofs.Ytdphcmmpkacmfaa
open Go.RowKit Go.K
set_option linter.unusedVariables false
attribute [local go_sem] xor_U64 and_U64 or_U64 wrap_U64 wrap_U8 ofInt_add64 ofInt_mul64 ofInt_neg64 shr_U64_1 shr_U64_4 U64_ofInt U8_ofInt64 u64_signed u64_compl

theorem num_any (n : Int) (w : World) : Calls Try.prog 13 #[.int .i64 n] w fun e w' => e = .returned (.int .i64 n) ∧ w = w' := by
  go_enter Try.func13, Try.ntmps13
  go_wp2
  go_ret
  exact ⟨rfl, rfl⟩
def nineL : List (BitVec 8) := [49#8, 50#8, 51#8, 52#8, 53#8, 54#8, 55#8, 56#8, 57#8]
theorem nine_any (w : World) : Calls Try.prog 34 #[] w fun e w' => e = .returned (.slice (some ⟨w.heap.size, 0, none⟩) 9 9) ∧ w' = w.alloc (.cells (vBs nineL).toArray 5 (9, 10)) := by
  have kc := fun (w : World) (C : Array Value) (n c : Nat) => Lib.run_convert_bytes_const (P := Try.prog) w 29 5 C n c Try.underlying29 Try.underlying5
  go_enter Try.func34, Try.ntmps34
  go_wp2
  go_ret
  exact ⟨rfl, rfl⟩
theorem sl_sub {w : World} {b : Nat} {t : TypeId} {fr : Nat × Nat} {l : List (BitVec 8)} (hg : w.heap[b]? = some (.cells (vBs l).toArray t fr)) (off n : Nat) :
    Sl w (some ⟨b, off, none⟩) (vBs ((l.drop off).take n)) := by
  intro _
  refine ⟨b, off, rfl, fun i hi => ?_⟩
  rw [cell_of_row _ _ _ _ _ _ hg]
  simp only [vBs, List.length_map, List.length_take, List.length_drop] at hi ⊢
  rw [List.getElem?_toArray, List.map_take, List.map_drop, List.getElem?_take_of_lt (by omega), List.getElem?_drop]
theorem awake_facts : (U64 (updB 0#64 nineL) == 11051210869376104954) = true ∧ (U64 (updB 0#64 [0#8]) == 2282658103124508505) = true ∧
    (U64 (joinRest (updB 0#64 (nineL.take 4)) M0 5 ^^^ updB 0#64 (nineL.drop 4)) == 11051210869376104954) = true := by
  refine ⟨by decide +kernel, by decide +kernel, ?_⟩
  rw [join_plain]
  decide +kernel
theorem awake_any (w : World) : Calls Try.prog 11 #[] w fun e w' => e = .returned (.bool true) ∧ Below w.heap.size w w' := by
  obtain ⟨f1, f2, f3⟩ := awake_facts
  have F1 := Lib.hid f1
  have F2 := Lib.hid f2
  have F3 := Lib.hid f3
  clear f1 f2 f3
  go_enter Try.func11, Try.ntmps11
  go_wp2_with fail
  refine (nine_any _).mono ?_
  rintro e w1 ⟨rfl, hw1⟩
  have hg1 : w1.heap[w.heap.size]? = some (.cells (vBs nineL).toArray 5 (9, 10)) := by rw [hw1]; exact heap_alloc_new _ _
  have HB1 := Lib.hid (show Below w.heap.size w w1 by rw [hw1]; exact (Below.refl _ _).alloc (Nat.le_refl _) _)
  have HS1 := Lib.hid (sl_sub hg1 0 4)
  clear hw1 hg1
  go_wp2_with fail
  refine (sum_any _ _ (nineL.take 4) _ (by decide) HS1.out).mono ?_
  rintro e w2 ⟨rfl, hb⟩
  have HB2 := Lib.hid (HB1.out.trans (hb.mono HB1.out.size))
  clear hb HB1 HS1
  go_wp2_with fail
  refine (nine_any _).mono ?_
  rintro e w3 ⟨rfl, hw3⟩
  have hg3 : w3.heap[w2.heap.size]? = some (.cells (vBs nineL).toArray 5 (9, 10)) := by rw [hw3]; exact heap_alloc_new _ _
  have HB3 := Lib.hid (show Below w.heap.size w w3 by rw [hw3]; exact HB2.out.alloc HB2.out.size _)
  have HS3 := Lib.hid (sl_sub hg3 4 5)
  clear hw3 hg3 HB2
  go_wp2_with fail
  refine (sum_any _ _ (nineL.drop 4) _ (by decide) HS3.out).mono ?_
  rintro e w4 ⟨rfl, hb⟩
  have HB4 := Lib.hid (HB3.out.trans (hb.mono HB3.out.size))
  clear hb HB3 HS3
  go_wp2_with fail
  refine (join_any (updB 0#64 (nineL.take 4)) (updB 0#64 (nineL.drop 4)) 5 _ (by decide)).mono ?_
  rintro e w5 ⟨rfl, hb⟩
  have HB5 := Lib.hid (HB4.out.trans (hb.mono HB4.out.size))
  clear hb HB4
  have f3 := F3.out
  go_wp2_with fail
  refine (nine_any _).mono ?_
  rintro e w6 ⟨rfl, hw6⟩
  have hg6 : w6.heap[w5.heap.size]? = some (.cells (vBs nineL).toArray 5 (9, 10)) := by rw [hw6]; exact heap_alloc_new _ _
  have HB6 := Lib.hid (show Below w.heap.size w w6 by rw [hw6]; exact HB5.out.alloc HB5.out.size _)
  have HS6 := Lib.hid (sl_sub hg6 0 9)
  clear hw6 hg6 HB5
  go_wp2_with fail
  refine (sum_any _ _ nineL _ (by decide) HS6.out).mono ?_
  rintro e w7 ⟨rfl, hb⟩
  have HB7 := Lib.hid (HB6.out.trans (hb.mono HB6.out.size))
  clear hb HB6 HS6
  have f1 := F1.out
  go_wp2_with fail
  have HS8 := Lib.hid (sl_sub (l := [0#8]) (t := 5) (fr := (0, 0)) (b := w7.heap.size) (w := w7.alloc (.cells (vBs [0#8]).toArray 5)) (heap_alloc_new _ _) 0 1)
  have HB8 := Lib.hid (HB7.out.alloc HB7.out.size (.cells (vBs [0#8]).toArray 5))
  clear HB7
  refine (sum_any _ _ [0#8] _ (by decide) HS8.out).mono ?_
  rintro e w9 ⟨rfl, hb⟩
  have HB9 := Lib.hid (HB8.out.trans (hb.mono HB8.out.size))
  clear hb HB8 HS8
  have f2 := F2.out
  go_wp2_with (go_at_call 13; refine (num_any _ _).mono ?_; rintro e w' ⟨rfl, rfl⟩)
  go_ret
  exact ⟨rfl, HB9.out⟩
/-- A place from 0 to n. -/
def placeN (k : Int) (n : Nat) : Nat := (k % ((n : Int) + 1)).toNat
theorem place_le (k : Int) (n : Nat) : placeN k n ≤ n := by
  unfold placeN
  have := Int.emod_lt_of_pos k (show (0 : Int) < (n : Int) + 1 by omega)
  have := Int.emod_nonneg k (show (n : Int) + 1 ≠ 0 by omega)
  omega
theorem place_any (k : Int) (n : Nat) (w : World) (hk : -9223372036854775808 ≤ k ∧ k ≤ 9223372036854775807) (hn : n < 9223372036854775807) :
    Calls Try.prog 14 #[.int .i64 k, .int .i64 n] w fun e w' => e = .returned (.int .i64 (placeN k n)) ∧ w = w' := by
  have hm : ((n : Int) + 1 == 0) = false := by simp; omega
  have h1 := Int.emod_lt_of_pos k (show (0 : Int) < (n : Int) + 1 by omega)
  have h2 := Int.emod_nonneg k (show (n : Int) + 1 ≠ 0 by omega)
  have ht : k.tmod ((n : Int) + 1) = if 0 ≤ k ∨ k % ((n : Int) + 1) = 0 then k % ((n : Int) + 1) else k % ((n : Int) + 1) - ((n : Int) + 1) := by
    rw [Int.tmod_eq_emod]
    have hd : ((n : Int) + 1) ∣ k ↔ k % ((n : Int) + 1) = 0 := Int.dvd_iff_emod_eq_zero
    by_cases h : 0 ≤ k ∨ k % ((n : Int) + 1) = 0
    · rw [if_pos h, if_pos (h.imp id hd.2)]; simp
    · rw [if_neg h, if_neg (fun h' => h (h'.imp id hd.1))]
      congr 1
  have HP := Lib.hid (show ((placeN k n : Nat) : Int) = k % ((n : Int) + 1) by unfold placeN; omega)
  by_cases h : 0 ≤ k ∨ k % ((n : Int) + 1) = 0
  · rw [if_pos h] at ht
    obtain ⟨r, hr⟩ : ∃ r, r = k % ((n : Int) + 1) := ⟨_, rfl⟩
    rw [← hr] at ht h1 h2 HP
    have hneg : decide (r < 0) = false := by simp; omega
    clear h hr
    go_enter Try.func14, Try.ntmps14
    go_wp2
    go_ret
    exact ⟨by rw [HP.out]; rfl, rfl⟩
  · rw [if_neg h] at ht
    obtain ⟨r, hr⟩ : ∃ r, r = k % ((n : Int) + 1) := ⟨_, rfl⟩
    rw [← hr] at ht h1 h2 HP h
    have hneg : decide (r - ((n : Int) + 1) < 0) = true := by simp; omega
    clear h hr
    go_enter Try.func14, Try.ntmps14
    go_wp2
    go_ret
    refine ⟨ret_int ?_, rfl⟩
    rw [HP.out]
    show r - ((n : Int) + 1) + (n : Int) + 1 = r
    omega
end Go.Proofs.Ytdphcmmpkacmfaa
