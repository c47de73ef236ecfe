/-
  Layer 21: the document's winner, the least bid.
-/
import Derived.Test.YtpejcndfplbikaaVg
namespace Go.Proofs.Ytpejcndfplbikaa
open Go.RowKit Go.K
set_option linter.unusedVariables false
set_option linter.unusedSimpArgs false
def First (C : Nat → Int) (n j : Nat) : Prop := ∀ q, 1 ≤ q → q < n → C q ≤ C j ∧ (C q = C j → j ≤ q)
def Tops (r : Int) (C : Nat → Int) (n i a : Nat) : Prop := (a = 0 ∧ ∀ j, 1 ≤ j → j < i → ¬ (C j ≥ r ∧ First C n j)) ∨ (1 ≤ a ∧ a < i ∧ C a ≥ r ∧ First C n a)
theorem tops_bst {r : Int} {C : Nat → Int} {n a : Nat} (h : Tops r C n n a) : a = bst r C n := by
  have hb := bst_best r C n
  rcases h with ⟨ha, hno⟩ | ⟨h1, h2, h3, h4⟩
  · rcases hb with ⟨hb, _⟩ | ⟨b1, b2, b3, b4⟩
    · omega
    · exact absurd ⟨b3, b4⟩ (hno _ b1 b2)
  · exact best_unique (.inr ⟨h1, h2, h3, h4⟩) hb
theorem tops_yes {r : Int} {C : Nat → Int} {n i a : Nat} (h1 : 1 ≤ i) (hr : C i ≥ r) (hf : First C n i) : Tops r C n (i + 1) i := .inr ⟨h1, by omega, hr, hf⟩
theorem tops_no {r : Int} {C : Nat → Int} {n i a : Nat} (h : Tops r C n i a) (hn : ¬ (C i ≥ r ∧ First C n i)) : Tops r C n (i + 1) a := by
  rcases h with ⟨ha, hno⟩ | ⟨h1, h2, h3, h4⟩
  · refine .inl ⟨ha, fun j hj hji => ?_⟩
    by_cases e : j = i
    · subst e; exact hn
    · exact hno j hj (by omega)
  · exact .inr ⟨h1, by omega, h3, h4⟩
set_option maxRecDepth 100000 in
set_option maxHeartbeats 2000000 in
theorem winner_any (c : Con) (w : World) (hc : ConOk w c) :
    Calls Try.prog 45 #[c.agg] w fun r w' => r = .returned (.tuple #[.int .i64 ((winV c.kind c.reserve (c.es.map Ent.d)).1 : Nat), .int .u64 (winV c.kind c.reserve (c.es.map Ent.d)).2]) ∧ Below w.heap.size w w' := by
  have HE := Lib.hid (fun V (h : Below w.heap.size w V) => (hc.kept h).coin)
  have hm := hc.mx
  clear hc
  obtain ⟨n, k, b, d, t, wn, p, r, s, o, ea, ec, es⟩ := c
  unfold Con.agg
  simp only at *
  have HLL := Lib.hid (show (es.map Ent.d).length = es.length by simp)
  generalize hds : es.map Ent.d = ds at *
  have HB := Lib.hid ((Below.refl w.heap.size w).alloc (Nat.le_refl _) (.cells #[.int .i64 n, .int .i64 k, .int .i64 b, .int .i64 d, .int .i64 t, .int .i64 wn, .int .u64 p, .int .u64 r, .int .u64 s, .int .i64 o, .slice ea es.length ec] 25))
  have HR := Lib.hid (show (w.alloc (.cells #[.int .i64 n, .int .i64 k, .int .i64 b, .int .i64 d, .int .i64 t, .int .i64 wn, .int .u64 p, .int .u64 r, .int .u64 s, .int .i64 o, .slice ea es.length ec] 25)).heap[w.heap.size]? = some (.cells #[.int .i64 n, .int .i64 k, .int .i64 b, .int .i64 d, .int .i64 t, .int .i64 wn, .int .u64 p, .int .u64 r, .int .u64 s, .int .i64 o, .slice ea es.length ec] 25) from alloc_at rfl)
  clear hds
  go_enter Try.func45, Try.ntmps45
  by_cases hn : es.length < 2
  · have t0 : decide ((es.length : Int) < 2) = true := by simp; omega
    have HW := Lib.hid (show winV k r ds = (0, 0) by unfold winV; rw [if_neg (by have := HLL.out; omega)])
    by_cases h2 : k = 2
    · have c2 : (k != 2) = false := by simpa using h2
      have c2' : (k == 2) = true := by simpa using h2
      clear h2
      go_wp2
      go_ret2
      exact ⟨by rw [HW.out]; rfl, HB.out⟩
    · have c2 : (k != 2) = true := by simpa using h2
      by_cases h3 : k = 3
      · have c3 : (k != 3) = false := by simpa using h3
        clear h2 h3
        go_wp2
        go_ret2
        exact ⟨by rw [HW.out]; rfl, HB.out⟩
      · have c3 : (k != 3) = true := by simpa using h3
        clear h2 h3
        go_wp2
        go_ret2
        exact ⟨by rw [HW.out]; rfl, HB.out⟩
  have t0 : decide ((es.length : Int) < 2) = false := by simp; omega
  by_cases h2 : k = 2
  · have HW := Lib.hid (show winV k r ds = (es.length - 1, dC ds (es.length - 1)) by unfold winV; rw [if_pos (by have := HLL.out; omega), if_pos h2, HLL.out])
    have c2 : (k != 2) = false := by simpa using h2
    have c2' : (k == 2) = true := by simpa using h2
    obtain ⟨ob, oo, hea, f2⟩ := HE.out _ HB.out (es.length - 1) (by omega)
    subst hea
    have i1 : (es.length : Int) - 1 < (es.length : Int) := by omega
    have i2 : (0 : Int) ≤ (es.length : Int) - 1 := by omega
    have e1 : ((es.length : Int) - 1).toNat = es.length - 1 := by omega
    clear h2
    go_wp2
    go_quiet (fail)
    go_wp2
    go_ret2
    exact ⟨by rw [HW.out]; show Ending.returned (.tuple #[.int .i64 ((es.length : Int) - 1), _]) = _; rw [show ((es.length : Int) - 1) = ((es.length - 1 : Nat) : Int) by omega]; rfl, HB.out.trans ((Qt.drewN _ _).below _)⟩
  have c2 : (k != 2) = true := by simpa using h2
  have c2' : (k == 2) = false := by simpa using h2
  by_cases h3 : k = 3
  case neg =>
    have HW := Lib.hid (show winV k r ds = (0, 0) by unfold winV; rw [if_neg (by omega)])
    have c3 : (k != 3) = true := by simpa using h3
    clear h2 h3
    go_wp2
    go_ret2
    exact ⟨by rw [HW.out]; rfl, HB.out⟩
  have HW := Lib.hid (show winV k r ds = (bst r (dC ds) es.length, pay r (dC ds) (bst r (dC ds) es.length) es.length) by unfold winV; rw [if_pos (by have := HLL.out; omega), if_neg h2, HLL.out])
  have c3 : (k != 3) = false := by simpa using h3
  clear h2 h3 HLL
  generalize dC ds = C at *
  go_wp2
  obtain ⟨w0, hw0⟩ : ∃ W, W = w.alloc (.cells #[.int .i64 n, .int .i64 k, .int .i64 b, .int .i64 d, .int .i64 t, .int .i64 wn, .int .u64 p, .int .u64 r, .int .u64 s, .int .i64 o, .slice ea es.length ec] 25) := ⟨_, rfl⟩
  rw [← hw0] at HB HR ⊢
  clear hw0
  go_loopw [5, 6, 7, 8] (fun a i x y wr => ∃ (j q : Nat), 1 ≤ j ∧ j ≤ es.length ∧ i = .int .i64 j ∧ a = .int .i64 q ∧ Tops r C es.length j q ∧ Qt w0 wr) (fun _ i _ _ _ => es.length - (intOf i).toNat)
  case atStart => exact ⟨1, 0, by omega, by omega, rfl, rfl, .inl ⟨rfl, fun j h1 h2 => by omega⟩, Qt.refl _⟩
  case round =>
    obtain ⟨j, a, hj1, hjn, rfl, rfl, htop, hq⟩ := hrel
    have HT := Lib.hid htop
    have HQ := Lib.hid hq
    have z7 : wr.cell? ⟨w.heap.size, 7, none⟩ = some (.int .u64 r) := by rw [hq.cell, cell_of_row _ _ _ _ _ _ HR.out]; rfl
    have z10 : wr.cell? ⟨w.heap.size, 10, none⟩ = some (.slice ea es.length ec) := by rw [hq.cell, cell_of_row _ _ _ _ _ _ HR.out]; rfl
    have HBr := Lib.hid (HB.out.trans (hq.below _))
    clear htop hq
    by_cases hlt : j < es.length
    · have t1 : decide ((j : Int) < (es.length : Int)) = true := by simp; omega
      have i1 : (j : Int) < (es.length : Int) := by omega
      obtain ⟨ob, oo, hea, f2⟩ := HE.out _ HBr.out j hlt
      subst hea
      by_cases h1 : C j ≥ r
      · have c1 : decide (C j ≥ r) = true := decide_eq_true h1
        go_wp2
        go_quiet (fail)
        go_wp2
        obtain ⟨wb, hwb⟩ : ∃ W, W = wr.drewN nq := ⟨_, rfl⟩
        have HQ1 := Lib.hid (show Qt w0 wb by rw [hwb]; exact HQ.out.trans ⟨_, rfl⟩)
        rw [← hwb]
        clear hwb HBr z7 z10 f2 HQ
        go_loopw [7, 8] (fun x y wr => ∃ (m : Nat) (f : Bool), 1 ≤ m ∧ m ≤ es.length ∧ y = .int .i64 m ∧ x = .bool f ∧ (f = true ↔ ∀ q, 1 ≤ q → q < m → C q ≤ C j ∧ (C q = C j → j ≤ q)) ∧ Qt w0 wr) (fun _ i _ => es.length - (intOf i).toNat)
        case atStart => exact ⟨1, true, by omega, by omega, rfl, rfl, ⟨fun _ q h1 h2 => by omega, fun _ => rfl⟩, HQ1.out⟩
        case round =>
          obtain ⟨m, f, hm1, hmn, rfl, rfl, hf, hq⟩ := hrel
          have HF := Lib.hid hf
          have HQ := Lib.hid hq
          have z10 : wr.cell? ⟨w.heap.size, 10, none⟩ = some (.slice (some ⟨ob, oo, none⟩) es.length ec) := by rw [hq.cell, cell_of_row _ _ _ _ _ _ HR.out]; rfl
          have HBr := Lib.hid (HB.out.trans (hq.below _))
          clear hf hq
          by_cases hmt : m < es.length
          · have t2 : decide ((m : Int) < (es.length : Int)) = true := by simp; omega
            have i2 : (m : Int) < (es.length : Int) := by omega
            obtain ⟨_, _, he, f2⟩ := HE.out _ HBr.out j hlt
            cases he
            obtain ⟨_, _, he, g2⟩ := HE.out _ HBr.out m hmt
            cases he
            have HS := Lib.hid (show (C m ≤ C j ∧ (C m = C j → j ≤ m)) → (f = true ↔ ∀ q, 1 ≤ q → q < m + 1 → C q ≤ C j ∧ (C q = C j → j ≤ q)) from fun h => HF.out.trans ⟨fun g q hq1 hq2 => by
                by_cases e : q = m
                · subst e; exact h
                · exact g q hq1 (by omega), fun g q hq1 hq2 => g q hq1 (by omega)⟩)
            have HN := Lib.hid (show ¬ (C m ≤ C j ∧ (C m = C j → j ≤ m)) → (false = true ↔ ∀ q, 1 ≤ q → q < m + 1 → C q ≤ C j ∧ (C q = C j → j ≤ q)) from fun h => ⟨fun g => (Bool.noConfusion g), fun g => absurd (g m hm1 (by omega)) h⟩)
            clear HF
            by_cases q1 : C m > C j
            · have d1 : decide (C m > C j) = true := decide_eq_true q1
              have HN2 := Lib.hid (HN.out (by omega))
              clear q1
              go_wp2
              go_quiet (fail)
              go_wp2
              go_roundw
              case rel => exact ⟨m + 1, false, by omega, by omega, by go_num, rfl, HN2.out, HQ.out.trans ⟨_, rfl⟩⟩
              case measure => simp [intOf]; omega
            · have d1 : decide (C m > C j) = false := decide_eq_false q1
              by_cases q2 : C m = C j
              · have d2 : (C m == C j) = true := by simpa using q2
                by_cases q3 : m < j
                · have d3 : decide ((m : Int) < (j : Int)) = true := by simp; omega
                  have HN2 := Lib.hid (HN.out (by omega))
                  clear q1 q2
                  go_wp2
                  go_quiet (fail)
                  go_wp2
                  go_roundw
                  case rel => exact ⟨m + 1, false, by omega, by omega, by go_num, rfl, HN2.out, HQ.out.trans ⟨_, rfl⟩⟩
                  case measure => simp [intOf]; omega
                · have d3 : decide ((m : Int) < (j : Int)) = false := by simp; omega
                  have HS2 := Lib.hid (HS.out (by omega))
                  clear q1 q2
                  go_wp2
                  go_quiet (fail)
                  go_wp2
                  go_roundw
                  case rel => exact ⟨m + 1, f, by omega, by omega, by go_num, rfl, HS2.out, HQ.out.trans ⟨_, rfl⟩⟩
                  case measure => simp [intOf]; omega
              · have d2 : (C m == C j) = false := by simpa using q2
                have HS2 := Lib.hid (HS.out (by omega))
                clear q1 q2
                go_wp2
                go_quiet (fail)
                go_wp2
                go_roundw
                case rel => exact ⟨m + 1, f, by omega, by omega, by go_num, rfl, HS2.out, HQ.out.trans ⟨_, rfl⟩⟩
                case measure => simp [intOf]; omega
          · have t2 : decide ((m : Int) < (es.length : Int)) = false := by simp; omega
            have HFF := Lib.hid (show f = true ↔ First C es.length j by rw [HF.out, show m = es.length by omega]; rfl)
            clear HF
            rcases f with _ | _
            · have HT2 := Lib.hid (tops_no HT.out (fun h => by have := HFF.out.2 h.2; cases this))
              go_wp2
              go_roundw
              case rel => exact ⟨j + 1, a, by omega, by omega, by go_num, rfl, HT2.out, HQ.out⟩
              case measure => simp [intOf]; omega
            · have HT2 := Lib.hid (tops_yes (a := a) hj1 h1 (HFF.out.1 rfl))
              go_wp2
              go_roundw
              case rel => exact ⟨j + 1, j, by omega, by omega, by go_num, rfl, HT2.out, HQ.out⟩
              case measure => simp [intOf]; omega
      · have c1 : decide (C j ≥ r) = false := decide_eq_false h1
        have HT2 := Lib.hid (tops_no HT.out (fun h => h1 h.1))
        go_wp2
        go_quiet (fail)
        go_wp2
        go_roundw
        case rel => exact ⟨j + 1, a, by omega, by omega, by go_num, rfl, HT2.out, HQ.out.trans ⟨_, rfl⟩⟩
        case measure => simp [intOf]; omega
    · have t1 : decide ((j : Int) < (es.length : Int)) = false := by simp; omega
      have HA := Lib.hid (show bst r C es.length = a by have h := HT.out; rw [show j = es.length by omega] at h; exact (tops_bst h).symm)
      obtain ⟨wa, hwa⟩ : ∃ W, W = wr := ⟨_, rfl⟩
      subst hwa
      go_wp2
      go_loopw [9, 10] (fun x i wr => ∃ j : Nat, 1 ≤ j ∧ j ≤ es.length ∧ i = .int .i64 j ∧ x = .int .u64 (pay r C a j) ∧ wr = wa) (fun _ i _ => es.length - (intOf i).toNat)
      case atStart => exact ⟨1, by omega, by omega, rfl, by simp [pay], rfl⟩
      case round =>
        obtain ⟨j, hj1, hjn, rfl, rfl, rfl⟩ := hrel
        by_cases hlt : j < es.length
        · have t0 : decide ((j : Int) < (es.length : Int)) = true := by simp; omega
          have i1 : (j : Int) < (es.length : Int) := by omega
          obtain ⟨ob, oo, hea, f2⟩ := HE.out _ HBr.out j hlt
          subst hea
          have HS := Lib.hid (show pay r C a (j + 1) = if 1 ≤ j ∧ j ≠ a then max (pay r C a j) (C j) else pay r C a j from rfl)
          generalize pay r C a j = y at *
          by_cases h1 : j = a
          · have c1 : ((j : Int) != (a : Int)) = false := by simp; omega
            have HN := Lib.hid (show pay r C a (j + 1) = y by rw [HS.out, if_neg (fun h => h.2 h1)])
            clear h1
            go_wp2
            go_roundw
            case rel => exact ⟨j + 1, by omega, by omega, by go_num, by rw [HN.out], by first | rfl | trivial⟩
            case measure => simp [intOf]; omega
          · have c1 : ((j : Int) != (a : Int)) = true := by simp; omega
            have HN := Lib.hid (show pay r C a (j + 1) = max y (C j) by rw [HS.out, if_pos ⟨hj1, h1⟩])
            clear h1
            generalize C j = z at *
            by_cases h5 : z > y
            · have c5 : decide (z > y) = true := decide_eq_true h5
              have HN2 := Lib.hid (show pay r C a (j + 1) = z by rw [HN.out]; omega)
              clear h5
              go_wp2
              go_roundw
              case rel => exact ⟨j + 1, by omega, by omega, by go_num, by rw [HN2.out], by first | rfl | trivial⟩
              case measure => simp [intOf]; omega
            · have c5 : decide (z > y) = false := decide_eq_false h5
              have HN2 := Lib.hid (show pay r C a (j + 1) = y by rw [HN.out]; omega)
              clear h5
              go_wp2
              go_roundw
              case rel => exact ⟨j + 1, by omega, by omega, by go_num, by rw [HN2.out], by first | rfl | trivial⟩
              case measure => simp [intOf]; omega
        · have t0 : decide ((j : Int) < (es.length : Int)) = false := by simp; omega
          have HQ2 := Lib.hid (show pay r C a j = pay r C a es.length by rw [show j = es.length by omega])
          rw [HQ2.out]
          go_wp2
          go_ret2
          exact ⟨by rw [HW.out, HA.out]; rfl, HBr.out⟩
end Go.Proofs.Ytpejcndfplbikaa
