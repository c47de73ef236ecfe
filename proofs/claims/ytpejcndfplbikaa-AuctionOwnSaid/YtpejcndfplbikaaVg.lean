/-
  Layer 21: who wins, by the program and by the document.
-/
import Derived.Test.YtpejcndfplbikaaVf
namespace Go.Proofs.Ytpejcndfplbikaa
open Go.RowKit Go.K
set_option linter.unusedVariables false
set_option linter.unusedSimpArgs false
theorem ConOk.coin {W : World} {c : Con} (h : ConOk W c) (i : Nat) (hi : i < c.es.length) : ∃ b off, c.ea = some ⟨b, off, none⟩ ∧ W.cell? ⟨b, off + i * 5 + 2, none⟩ = some (.int .u64 (dC (c.es.map Ent.d) i)) := by
  obtain ⟨b, off, he, _, _, f2, _⟩ := h.ent i hi
  exact ⟨b, off, he, by rw [dC_ent _ _ hi]; exact f2⟩
set_option maxRecDepth 100000 in
theorem win51_any (c : Con) (g gc : Nat) (w : World) (hc : ConOk w c) (h : Hall w g gc c) (h2 : 2 ≤ c.es.length) :
    Calls Try.prog 51 #[.pointer (some ⟨gc, 0, none⟩)] w fun r w' => r = .returned (.tuple #[.int .i64 ((c.es.length - 1 : Nat) : Int), .int .u64 (dC (c.es.map Ent.d) (c.es.length - 1))]) ∧ Qt w w' := by
  obtain ⟨ob, oo, hea, f2⟩ := hc.coin (c.es.length - 1) (by omega)
  have hm := hc.mx
  have z0 := h.at'
  have z10 := h.es
  clear hc h
  obtain ⟨n, k, b, d, t, wn, p, r, s, o, ea, ec, es⟩ := c
  simp only at *
  subst hea
  have i1 : (es.length : Int) - 1 < (es.length : Int) := by omega
  have i2 : (0 : Int) ≤ (es.length : Int) - 1 := by omega
  have e1 : ((es.length : Int) - 1).toNat = es.length - 1 := by omega
  generalize dC (es.map Ent.d) (es.length - 1) = y at *
  go_enter Try.func51, Try.ntmps51
  go_wp2
  go_quiet (fail)
  go_wp2
  go_ret2
  exact ⟨by rw [show ((es.length - 1 : Nat) : Int) = (es.length : Int) - 1 by omega]; rfl, ⟨_, rfl⟩⟩
set_option maxRecDepth 100000 in
theorem win52_any (c : Con) (g gc : Nat) (w : World) (hc : ConOk w c) (h : Hall w g gc c) :
    Calls Try.prog 52 #[.pointer (some ⟨gc, 0, none⟩)] w fun r w' => r = .returned (.tuple #[.int .i64 (bst c.reserve (dC (c.es.map Ent.d)) c.es.length : Nat), .int .u64 (pay c.reserve (dC (c.es.map Ent.d)) (bst c.reserve (dC (c.es.map Ent.d)) c.es.length) c.es.length)]) ∧ w = w' := by
  have HE := Lib.hid hc.coin
  have hm := hc.mx
  have z0 := h.at'
  have z7 := h.reserve
  have z10 := h.es
  clear hc h
  obtain ⟨n, k, b, d, t, wn, p, r, s, o, ea, ec, es⟩ := c
  simp only at *
  generalize dC (es.map Ent.d) = C at *
  go_enter Try.func52, Try.ntmps52
  go_wp2
  go_loopw [3, 4, 5] (fun a i x wr => ∃ j : Nat, 1 ≤ j ∧ (j = 1 ∨ j ≤ es.length) ∧ i = .int .i64 j ∧ a = .int .i64 (bst r C j : Nat) ∧ wr = w) (fun _ i _ _ => es.length - (intOf i).toNat)
  case atStart => exact ⟨1, by omega, by omega, rfl, rfl, rfl⟩
  case round =>
    obtain ⟨j, hj1, hjn, rfl, rfl, rfl⟩ := hrel
    by_cases hlt : j < es.length
    · have t0 : decide ((j : Int) < (es.length : Int)) = true := by simp; omega
      have i1 : (j : Int) < (es.length : Int) := by omega
      obtain ⟨ob, oo, hea, f2⟩ := HE.out j hlt
      have HB := Lib.hid (bst_best r C j)
      have HS := Lib.hid (show bst r C (j + 1) = if 1 ≤ j ∧ C j ≥ r ∧ (bst r C j = 0 ∨ C j > C (bst r C j)) then j else bst r C j from rfl)
      subst hea
      generalize bst r C j = a at *
      by_cases h1 : C j ≥ r
      · have c1 : decide (C j ≥ r) = true := decide_eq_true h1
        by_cases h2 : a = 0
        · have c2 : ((a : Int) == 0) = true := by simp; omega
          have HN := Lib.hid (show bst r C (j + 1) = j by rw [HS.out, if_pos ⟨hj1, h1, .inl h2⟩])
          clear h2
          go_wp2
          go_roundw
          case rel => exact ⟨j + 1, by omega, by omega, by go_num, by rw [HN.out], by first | rfl | trivial⟩
          case measure => simp [intOf]; omega
        · have c2 : ((a : Int) == 0) = false := by simp; omega
          have hab : a < es.length := by
            rcases HB.out with ⟨h, _⟩ | ⟨_, h, _⟩ <;> omega
          have i2 : (a : Int) < (es.length : Int) := by omega
          obtain ⟨_, _, he, g2⟩ := HE.out a hab
          cases he
          by_cases h3 : C j > C a
          · have c3 : decide (C j > C a) = true := decide_eq_true h3
            have HN := Lib.hid (show bst r C (j + 1) = j by rw [HS.out, if_pos ⟨hj1, h1, .inr h3⟩])
            clear h2
            go_wp2
            go_roundw
            case rel => exact ⟨j + 1, by omega, by omega, by go_num, by rw [HN.out], by first | rfl | trivial⟩
            case measure => simp [intOf]; omega
          · have c3 : decide (C j > C a) = false := decide_eq_false h3
            have HN := Lib.hid (show bst r C (j + 1) = a by rw [HS.out, if_neg (fun h => h.2.2.elim h2 h3)])
            clear h2
            go_wp2
            go_roundw
            case rel => exact ⟨j + 1, by omega, by omega, by go_num, by rw [HN.out], by first | rfl | trivial⟩
            case measure => simp [intOf]; omega
      · have c1 : decide (C j ≥ r) = false := decide_eq_false h1
        have HN := Lib.hid (show bst r C (j + 1) = a by rw [HS.out, if_neg (fun h => h1 h.2.1)])
        go_wp2
        go_roundw
        case rel => exact ⟨j + 1, by omega, by omega, by go_num, by rw [HN.out], by first | rfl | trivial⟩
        case measure => simp [intOf]; omega
    · have t0 : decide ((j : Int) < (es.length : Int)) = false := by simp; omega
      obtain ⟨wa, hwa⟩ : ∃ W, W = wr := ⟨_, rfl⟩
      subst hwa
      have HQ := Lib.hid (show bst r C j = bst r C es.length by
        by_cases h : j = es.length
        · rw [h]
        · rw [show j = 1 by omega, show es.length = 0 by omega]; rfl)
      rw [HQ.out]
      generalize ha : bst r C es.length = a at *
      have HA := Lib.hid ha
      clear ha
      go_wp2
      go_loopw [6, 7] (fun q i wr => ∃ j : Nat, 1 ≤ j ∧ (j = 1 ∨ j ≤ es.length) ∧ i = .int .i64 j ∧ q = .int .u64 (pay r C a j) ∧ wr = wa) (fun _ i _ => es.length - (intOf i).toNat)
      case atStart => exact ⟨1, by omega, by omega, rfl, rfl, rfl⟩
      case round =>
        obtain ⟨j, hj1, hjn, rfl, rfl, rfl⟩ := hrel
        by_cases hlt : j < es.length
        · have t0 : decide ((j : Int) < (es.length : Int)) = true := by simp; omega
          have i1 : (j : Int) < (es.length : Int) := by omega
          obtain ⟨ob, oo, hea, f2⟩ := HE.out j hlt
          subst hea
          have HS := Lib.hid (show pay r C a (j + 1) = if 1 ≤ j ∧ j ≠ a then max (pay r C a j) (C j) else pay r C a j from rfl)
          generalize pay r C a j = y at *
          by_cases h1 : j = a
          · have c1 : ((j : Int) != (a : Int)) = false := by simp; omega
            have HN := Lib.hid (show pay r C a (j + 1) = y by rw [HS.out, if_neg (fun h => h.2 h1)])
            clear h1
            go_wp2
            go_roundw
            case rel => exact ⟨j + 1, by omega, by omega, by go_num, by rw [HN.out], by first | rfl | trivial⟩
            case measure => simp [intOf]; omega
          · have c1 : ((j : Int) != (a : Int)) = true := by simp; omega
            have HN := Lib.hid (show pay r C a (j + 1) = max y (C j) by rw [HS.out, if_pos ⟨hj1, h1⟩])
            clear h1
            generalize C j = z at *
            go_wp2
            go_roundw
            case rel => exact ⟨j + 1, by omega, by omega, by go_num, by rw [HN.out]; congr 1; split <;> omega, by first | rfl | trivial⟩
            case measure => simp [intOf]; omega
        · have t0 : decide ((j : Int) < (es.length : Int)) = false := by simp; omega
          have HQ := Lib.hid (show pay r C a j = pay r C a es.length by
            by_cases h : j = es.length
            · rw [h]
            · rw [show j = 1 by omega, show es.length = 0 by omega]; simp [pay])
          rw [HQ.out]
          go_wp2
          go_ret2
          exact ⟨by rw [HA.out]; rfl, rfl⟩
end Go.Proofs.Ytpejcndfplbikaa
