/-
  Layer 22: slices.Index, slices.Min, slices.Clone of numbers.
-/
import Derived.Test.YtpikmcapnmdmbaaWb
namespace Go.Proofs.Ytpikmcapnmdmbaa
open Go.RowKit Go.K Go.Maps
set_option linter.unusedVariables false
set_option linter.unusedSimpArgs false
theorem eql22 (a : Option Addr) (n c : Nat) (w : World) : (binOp .eql 22 (.slice a n c) (.slice none 0 0)).run Try.prog w = .ok (.bool a.isNone) w := by
  simp only [binOp]
  simp [run_equal_slice_nil w 22 3 a n c Try.underlying22]
theorem eql66 (m : Option Nat) (w : World) : (binOp .eql 66 (.map m) (.map none)).run Try.prog w = .ok (.bool m.isNone) w := by
  simp only [binOp]
  simp [run_equal_map_nil w 66 3 3 m Try.underlying66]
theorem min_ite (m x : Int) : (if x < m then x else m) = min m x := by
  rw [Int.min_def]; split <;> split <;> omega
set_option maxRecDepth 100000 in
theorem index_any (a : Option Addr) (c : Nat) (l : List Int) (x : Int) (w : World) (hl : l.length ≤ 17592186043904) (hs : Sl w a (vI l)) (hx : x ∈ l) :
    Calls Try.prog 47 #[.slice a l.length c, .int .i64 x] w fun r w' => (∃ j : Nat, r = .returned (.int .i64 j) ∧ l[j]? = some x ∧ ∀ q, q < j → l[q]? ≠ some x) ∧ w = w' := by
  have HS := Lib.hid hs
  have HX := Lib.hid hx
  clear hs hx
  go_enter Try.func47, Try.ntmps47
  go_wp2
  go_loopw [5, 8] (fun x5 i wr => ∃ k : Nat, k ≤ l.length ∧ i = .int .i64 k ∧ (∀ q, q < k → l[q]? ≠ some x) ∧ w = wr) (fun _ i _ => l.length - (intOf i).toNat)
  case atStart => exact ⟨0, by omega, rfl, fun q h => by omega, rfl⟩
  case round =>
    obtain ⟨k, hk, rfl, hn, rfl⟩ := hrel
    have HN := Lib.hid hn
    clear hn
    by_cases hlt : k < l.length
    · have t0 : decide ((k : Int) < (l.length : Int)) = true := by simp; omega
      have i1 : (k : Int) < (l.length : Int) := by omega
      obtain ⟨b, o, rfl, z1⟩ := int_at HS.out k hlt
      have HK := Lib.hid (List.getElem?_eq_getElem hlt)
      generalize l[k] = y at z1 HK
      by_cases e : x = y
      · have t1 : (x == y) = true := by simpa using e
        have HE := Lib.hid e
        clear e
        go_wp2
        go_ret
        exact ⟨⟨k, rfl, by rw [HK.out, HE.out], HN.out⟩, rfl⟩
      · have t1 : (x == y) = false := by simpa using e
        have HE := Lib.hid e
        clear e
        go_wp2
        go_roundw
        case rel =>
          refine ⟨k + 1, by omega, by go_num, fun q hq => ?_, by trivial⟩
          by_cases e : q = k
          · subst e; rw [HK.out]; intro e2; exact HE.out (Option.some.inj e2).symm
          · exact HN.out q (by omega)
        case measure => simp [intOf]; omega
    · have t0 : decide ((k : Int) < (l.length : Int)) = false := by simp; omega
      obtain ⟨j, hj, e⟩ := List.mem_iff_getElem.1 HX.out
      exact absurd (by rw [List.getElem?_eq_getElem hj, e]) (HN.out j (by omega))
set_option maxRecDepth 100000 in
theorem min_any (a : Option Addr) (c : Nat) (l : List Int) (w : World) (hl : l.length ≤ 17592186043904) (hs : Sl w a (vI l)) (h0 : 0 < l.length) :
    Calls Try.prog 48 #[.slice a l.length c] w fun r w' => (∃ m : Int, r = .returned (.int .i64 m) ∧ m ∈ l ∧ ∀ x ∈ l, m ≤ x) ∧ w = w' := by
  have HS := Lib.hid hs
  obtain ⟨b, o, rfl, z0⟩ := int_at hs 0 h0
  have t0 : decide ((l.length : Int) < 1) = false := by simp; omega
  have i0 : (0 : Int) < (l.length : Int) := by omega
  have H0 := Lib.hid (List.getElem_mem h0)
  have HQ := Lib.hid (List.getElem?_eq_getElem h0)
  generalize l[0] = y at z0 H0 HQ
  rw [Nat.add_zero] at z0
  clear hs
  go_enter Try.func48, Try.ntmps48
  go_wp2
  go_loopw [3, 4] (fun x3 i wr => ∃ (k : Nat) (m : Int), k ≤ l.length ∧ 1 ≤ k ∧ i = .int .i64 k ∧ x3 = .int .i64 m ∧ m ∈ l ∧ (∀ x ∈ l.take k, m ≤ x) ∧ w = wr) (fun _ i _ => l.length - (intOf i).toNat)
  case atStart =>
    refine ⟨1, y, by omega, by omega, rfl, rfl, H0.out, fun x hx => ?_, rfl⟩
    obtain ⟨q, hq, rfl⟩ := List.mem_take_iff_getElem.1 hx
    have hq0 : q = 0 := by omega
    subst hq0
    have := HQ.out
    rw [List.getElem?_eq_getElem h0] at this
    have := Option.some.inj this
    omega
  case round =>
    obtain ⟨k, m, hk, hk1, rfl, rfl, hm, hn, rfl⟩ := hrel
    have HN := Lib.hid hn
    have HM := Lib.hid hm
    clear hn hm
    by_cases hlt : k < l.length
    · have t1 : decide ((k : Int) < (l.length : Int)) = true := by simp; omega
      have i1 : (k : Int) < (l.length : Int) := by omega
      obtain ⟨b', o', he, z1⟩ := int_at HS.out k hlt
      cases he
      have HK := Lib.hid (List.getElem_mem hlt)
      have HT := Lib.hid (List.take_succ_eq_append_getElem hlt)
      generalize l[k] = x at z1 HK HT
      go_wp2
      go_roundw
      case rel =>
        rw [min_ite]
        refine ⟨k + 1, min m x, by omega, by omega, by go_num, rfl, ?_, fun z hz => ?_, by trivial⟩
        · rcases Int.le_total m x with h | h
          · rw [Int.min_eq_left h]; exact HM.out
          · rw [Int.min_eq_right h]; exact HK.out
        · rw [HT.out] at hz
          rcases List.mem_append.1 hz with h | h
          · exact Int.le_trans (Int.min_le_left m x) (HN.out z h)
          · rw [List.mem_singleton.1 h]; exact Int.min_le_right m x
      case measure => simp [intOf]; omega
    · have t1 : decide ((k : Int) < (l.length : Int)) = false := by simp; omega
      have HF := Lib.hid (show ∀ x ∈ l, m ≤ x from fun x hx => HN.out x (by rw [List.take_of_length_le (by omega)]; exact hx))
      go_wp2
      go_ret
      exact ⟨⟨m, rfl, HM.out, HF.out⟩, rfl⟩
set_option maxRecDepth 100000 in
theorem clone_any (b o : Nat) (c : Nat) (l : List Int) (w : World) (hl : l.length ≤ 17592186043904) (hs : Sl w (some ⟨b, o, none⟩) (vI l)) :
    Calls Try.prog 49 #[.slice (some ⟨b, o, none⟩) l.length c] w fun r w' => ∃ v, r = .returned v ∧ w'.ownsRow w.heap.size 3 1 v l.length (vI l) ∧ Below w.heap.size w w' := by
  have HS := Lib.hid hs
  clear hs
  have hnil := eql22 (some ⟨b, o, none⟩)
  go_enter Try.func49, Try.ntmps49
  have HB := Lib.hid ((Below.refl w.heap.size w).alloc (Nat.le_refl _) (.cells #[] 3))
  have HO := Lib.hid (show (w.alloc (.cells #[] 3)).ownsRow w.heap.size 3 1 (.slice (some ⟨w.heap.size, 0, none⟩) 0 0) 0 [] from ⟨rfl, .inr ⟨w.heap.size, 0, #[], rfl, Nat.le_refl _, alloc_at rfl, Nat.le_refl _, Nat.zero_le _, rfl, rfl⟩⟩)
  have h63 : 0 + l.length ≤ maxLen := by unfold maxLen; omega
  have hby : (0 + l.length) * 8 ≤ 140737488355328 := by omega
  go_wp2_with (at_builtin; refine wpList_append_sl rfl _ _ 22 rfl w.heap.size 3 (.int .i64 0) 1 8 Try.underlying22 infoI (by rfl) (by decide) (.slice (some ⟨w.heap.size, 0, none⟩) 0 0) 0 [] (by rfl) HO.out (some ⟨b, o, none⟩) l.length c (vI l) (by rfl) (fun h => by cases h) (by rw [vI_length]; omega) (HS.out.kept HB.out) (oneCell_vI _) h63 hby HB.out.size ?a9)
  intro v1 w1 ho hg
  have HO1 := Lib.hid ho
  have HB1 := Lib.hid (HB.out.grown hg HB.out.size (fun k hk => by cases hk; exact Nat.le_refl _))
  clear ho hg
  go_wp2
  go_ret
  exact ⟨v1, rfl, by simpa using HO1.out, HB1.out⟩
end Go.Proofs.Ytpikmcapnmdmbaa
