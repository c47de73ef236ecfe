/-
  Layer 19: what one earns.
-/
import Derived.Test.YtbggibdldadpiaaKb
namespace Go.Proofs.Ytbggibdldadpiaa
open Go.RowKit Go.K
open Go.Stab (swp rot Srt Prm Out)
set_option linter.unusedVariables false
set_option linter.unusedSimpArgs false
theorem set_nat (m : Nat) (hm : m < 18446744073709551616) (W : World) : Calls Try.prog 36 #[.pointer (some ⟨W.heap.size, 0, none⟩), .int .u64 (m : Nat)] (W.alloc (.cells #[.bool false, .slice none 0 0] 73)) fun e w' => e = .returned (.pointer (some ⟨W.heap.size, 0, none⟩)) ∧ n01.IntAt w' W.heap.size (m : Nat) ∧ Below W.heap.size W w' := by
  have h := n01.set64_any W.heap.size (BitVec.ofNat 64 m) _ (n01.isInt_new W)
  have e1 : U64 (BitVec.ofNat 64 m) = (m : Int) := by unfold U64; rw [BitVec.toNat_ofNat]; omega
  have e2 : ((BitVec.ofNat 64 m).toNat : Int) = (m : Int) := e1
  rw [e1] at h
  refine h.mono ?_
  rintro e w' ⟨rfl, hg, hi⟩
  rw [e2] at hi
  exact ⟨rfl, hi, ((Below.refl _ _).alloc (Nat.le_refl _) _).grown hg (by simp) (fun k hk => by cases hk; exact Nat.le_refl _)⟩
def earnZ (ask : Bool) (L1 L2 : List Int) (who : Int) (worth pay get : Nat) : Int :=
  if ask then (if decide (who ∈ L1) then (get : Int) - worth else 0) else (if decide (who ∈ L2) then (worth : Int) - pay else 0)
set_option maxRecDepth 100000 in
set_option maxHeartbeats 2000000 in
theorem earned_any (ask : Bool) (L1 L2 : List Int) (n1 n2 c1 c2 : Nat) (a1 a2 : Option Addr) (who : Int) (worth pay get : Nat) (w : World) (h1 : L1.length = n1) (h2 : L2.length = n2) (l1 : n1 ≤ 3000) (l2 : n2 ≤ 3000) (hw : worth < 18446744073709551616) (hp : pay < 18446744073709551616) (hg : get < 18446744073709551616)
    (s1 : Sl w a1 (vI L1)) (s2 : Sl w a2 (vI L2)) :
    Calls Try.prog 16 #[.agg #[.slice a1 n1 c1, .slice a2 n2 c2, .int .u64 pay, .int .u64 get], .bool ask, .int .i64 who, .int .u64 worth] w fun r w' =>
      r = .returned (.pointer (some ⟨w.heap.size + 1, 0, none⟩)) ∧ n01.IntAt w' (w.heap.size + 1) (earnZ ask L1 L2 who worth pay get) ∧ Below w.heap.size w w' := by
  obtain ⟨w1, hw1⟩ : ∃ w1, w1 = w.alloc (.cells #[.slice a1 n1 c1, .slice a2 n2 c2, .int .u64 pay, .int .u64 get] 27) := ⟨_, rfl⟩
  obtain ⟨w2, hw2⟩ : ∃ w2, w2 = w1.alloc (.cells #[.bool false, .slice none 0 0] 73) := ⟨_, rfl⟩
  have z1 : w1.heap.size = w.heap.size + 1 := by rw [hw1]; simp
  have z2 : w2.heap.size = w.heap.size + 2 := by rw [hw2]; simp [z1]
  have hb2 : Below w.heap.size w w2 := by rw [hw2, hw1]; exact ((Below.refl _ _).alloc (Nat.le_refl _) _).alloc (by simp) _
  have hr2 : w2.heap[w.heap.size]? = some (.cells #[.slice a1 n1 c1, .slice a2 n2 c2, .int .u64 pay, .int .u64 get] 27) := by rw [hw2, hw1]; exact alloc_old (alloc_at rfl)
  have hi2 : n01.IntAt w2 (w.heap.size + 1) 0 := by rw [hw2, ← z1]; exact n01.intAt_zero w1
  have K36 := Lib.hid (set_nat worth hw w2)
  rw [z2] at K36
  have HB2 := Lib.hid hb2
  have HR2 := Lib.hid hr2
  have HI2 := Lib.hid hi2
  have HW1 := Lib.hid hw1
  have HW2 := Lib.hid hw2
  have HZ2 := Lib.hid z2
  have HZ1 := Lib.hid z1
  have S1 := Lib.hid (s1.kept hb2)
  have S2 := Lib.hid (s2.kept hb2)
  have HL := Lib.hid (show L1.length = n1 ∧ L2.length = n2 ∧ n1 ≤ 3000 ∧ n2 ≤ 3000 ∧ worth < 18446744073709551616 ∧ pay < 18446744073709551616 ∧ get < 18446744073709551616 from ⟨h1, h2, l1, l2, hw, hp, hg⟩)
  clear hw1 hw2 z1 z2 hb2 hr2 hi2 s1 s2 h1 h2 l1 l2 hw hp hg
  go_enter Try.func16, Try.ntmps16
  go_upto_region 1 with fail
  rw [← HW1.out]
  go_upto_region 2 with fail
  rw [HZ1.out, ← HW2.out]
  go_wp2_with fail
  rw [HZ2.out]
  refine K36.out.mono ?_
  rintro e w3 ⟨rfl, hi3, hb3⟩
  have HB3 := Lib.hid (HB2.out.trans (hb3.mono (by omega)))
  have hb3' : Below w2.heap.size w2 w3 := by rw [HZ2.out]; exact hb3
  have HR3 := Lib.hid (row_kept HR2.out hb3')
  have HI3 := Lib.hid (HI2.out.kept hb3')
  have HJ3 := Lib.hid hi3
  have HZ3 := Lib.hid (show w.heap.size + 2 < w3.heap.size by obtain ⟨_, _, _, _, h, _⟩ := hi3; exact lt_row h)
  have S1 := Lib.hid (S1.out.kept hb3')
  have S2 := Lib.hid (S2.out.kept hb3')
  clear hi3 hb3 hb3' K36 HR2 HI2 HB2 HW1 HW2
  have x0 : w3.cell? ⟨w.heap.size, 0, none⟩ = some (.slice a1 n1 c1) := by rw [cell_of_row _ _ _ _ _ _ HR3.out]; rfl
  have x1 : w3.cell? ⟨w.heap.size, 1, none⟩ = some (.slice a2 n2 c2) := by rw [cell_of_row _ _ _ _ _ _ HR3.out]; rfl
  have KA := Lib.hid (among_any a1 c1 L1 who w3 (by have := HL.out; omega) S1.out)
  have KB := Lib.hid (among_any a2 c2 L2 who w3 (by have := HL.out; omega) S2.out)
  rw [HL.out.1] at KA
  rw [HL.out.2.1] at KB
  have HBA := Lib.hid ((Below.refl w3.heap.size w3).alloc (Nat.le_refl _) (.cells #[.bool false, .slice none 0 0] 73))
  have KG := Lib.hid (set_nat get HL.out.2.2.2.2.2.2 w3)
  have KP := Lib.hid (set_nat pay HL.out.2.2.2.2.2.1 w3)
  have y2 : (w3.alloc (.cells #[.bool false, .slice none 0 0] 73)).cell? ⟨w.heap.size, 2, none⟩ = some (.int .u64 pay) := by rw [cell_of_row _ _ _ _ _ _ (row_kept HR3.out HBA.out)]; rfl
  have y3 : (w3.alloc (.cells #[.bool false, .slice none 0 0] 73)).cell? ⟨w.heap.size, 3, none⟩ = some (.int .u64 get) := by rw [cell_of_row _ _ _ _ _ _ (row_kept HR3.out HBA.out)]; rfl
  cases ask
  case true =>
    obtain ⟨m, hm⟩ : ∃ m, m = decide (who ∈ L1) := ⟨_, rfl⟩
    rw [← hm] at KA
    have HE := Lib.hid (show earnZ true L1 L2 who worth pay get = if m then (get : Int) - worth else 0 by unfold earnZ; rw [← hm]; rfl)
    clear hm
    cases m
    case true =>
      go_wp2_with (first
        | (go_at_call 11; (with_reducible refine KA.out.mono ?_); rintro e w4 ⟨rfl, rfl⟩)
        | (go_at_call 36; (with_reducible refine KG.out.mono ?_); rintro e w5 ⟨rfl, hi5, hb5⟩))
      have K37 := Lib.hid (n01.sub_any (w.heap.size + 1) w4.heap.size (w.heap.size + 2) _ _ w5 (HI3.out.kept hb5).isInt hi5 (HJ3.out.kept hb5) (pw_bound _ (by have := HL.out; omega)) (pw_bound _ (by have := HL.out; omega)) (by omega))
      refine K37.out.mono ?_
      rintro e w6 ⟨rfl, hg6, hi6⟩
      have HI6 := Lib.hid hi6
      have HB6 := Lib.hid (show Below w.heap.size w w6 from (HB3.out.trans (hb5.mono HB3.out.size)).grown hg6 (HB3.out.trans (hb5.mono HB3.out.size)).size (fun k hk => by cases hk; omega))
      clear hg6 hi6 K37
      go_wp2
      go_ret
      exact ⟨rfl, by rw [HE.out]; exact HI6.out, HB6.out⟩
    case false =>
      go_wp2_with (go_at_call 11; (with_reducible refine KA.out.mono ?_); rintro e w4 ⟨rfl, rfl⟩)
      go_ret
      exact ⟨rfl, by rw [HE.out]; exact HI3.out, HB3.out⟩
  case false =>
    obtain ⟨m, hm⟩ : ∃ m, m = decide (who ∈ L2) := ⟨_, rfl⟩
    rw [← hm] at KB
    have HE := Lib.hid (show earnZ false L1 L2 who worth pay get = if m then (worth : Int) - pay else 0 by unfold earnZ; rw [← hm]; rfl)
    clear hm
    cases m
    case true =>
      go_wp2_with (first
        | (go_at_call 11; (with_reducible refine KB.out.mono ?_); rintro e w4 ⟨rfl, rfl⟩)
        | (go_at_call 36; (with_reducible refine KP.out.mono ?_); rintro e w5 ⟨rfl, hi5, hb5⟩))
      have K37 := Lib.hid (n01.sub_any (w.heap.size + 1) (w.heap.size + 2) w4.heap.size _ _ w5 (HI3.out.kept hb5).isInt (HJ3.out.kept hb5) hi5 (pw_bound _ (by have := HL.out; omega)) (pw_bound _ (by have := HL.out; omega)) (by have := HZ3.out; omega))
      refine K37.out.mono ?_
      rintro e w6 ⟨rfl, hg6, hi6⟩
      have HI6 := Lib.hid hi6
      have HB6 := Lib.hid (show Below w.heap.size w w6 from (HB3.out.trans (hb5.mono HB3.out.size)).grown hg6 (HB3.out.trans (hb5.mono HB3.out.size)).size (fun k hk => by cases hk; omega))
      clear hg6 hi6 K37
      go_wp2
      go_ret
      exact ⟨rfl, by rw [HE.out]; exact HI6.out, HB6.out⟩
    case false =>
      go_wp2_with (go_at_call 11; (with_reducible refine KB.out.mono ?_); rintro e w4 ⟨rfl, rfl⟩)
      go_ret
      exact ⟨rfl, by rw [HE.out]; exact HI3.out, HB3.out⟩
end Go.Proofs.Ytbggibdldadpiaa
