/-
  Layer 20: the document's terms of a contract, walked.
-/
import Derived.Test.YtiafhgcnjgpeaaaWc
namespace Go.Proofs.Ytiafhgcnjgpeaaa
open Go.RowKit Go.K
set_option linter.unusedVariables false
set_option linter.unusedSimpArgs false

theorem termsE_le (b wn : Int) (es : List Ent) : termsE b wn es = 200 ∨ termsE b wn es = 0 := by
  unfold termsE
  split
  · split
    · exact Or.inl rfl
    · exact Or.inr rfl
  · exact Or.inl rfl
theorem itemP_neg {n : Int} (h : ¬ 0 ≤ n) : itemP n = false := by simp [itemP, h]
theorem itemP_big {n : Int} (h : ¬ n ≤ 512) : itemP n = false := by simp [itemP, h]
theorem itemP_yes {n : Int} (h : 0 ≤ n) (h2 : n ≤ 512) : itemP n = true := by simp [itemP, h, h2]
theorem termsV_nz (c : Con) (h : c.to = c.by' ∨ c.kind ≠ 1 ∨ c.reserve ≠ 0 ∨ c.step ≠ 0 ∨ c.of' ≠ 0 ∨ itemP c.want = false ∨ c.price > maxS ∨ (c.want = 0 ∧ c.price = 0)) : decide (termsV c = 0) = false := by
  refine decide_eq_false ?_
  by_cases h1 : c.kind = 1 ∧ c.to = c.by'
  · unfold termsV; rw [if_pos h1]; decide
  · by_cases h2 : c.kind = 1
    · rcases h with h | h
      · exact absurd ⟨h2, h⟩ h1
      · rw [termsV_a c h1 h]; decide
    · rw [termsV_a c h1 (Or.inl h2)]; decide
theorem nz_of {x y : Int} (h : x = y) (hy : y = 200) : decide (x = 0) = false := by subst h; subst hy; rfl
theorem z_of {x y : Int} (h : x = y) (hy : y = 0) : decide (x = 0) = true := by subst h; subst hy; rfl
/-- What the document's own test says. -/
def tradeV (c : Con) : Bool := decide (termsV c = 0)

set_option maxRecDepth 100000 in
set_option maxHeartbeats 8000000 in
theorem rtrade_any (c : Con) (w : World) (hc : ConOk w c) :
    Calls Try.prog 44 #[c.agg] w fun e w' => e = .returned (.bool (tradeV c)) ∧ Below w.heap.size w w' := by
  have HC := Lib.hid hc
  clear hc
  unfold Con.agg
  obtain ⟨n, k, b, d, t, wn, p, r, s, o, ea, ec, es⟩ := c
  go_enter Try.func44, Try.ntmps44
  have HB := Lib.hid ((Below.refl w.heap.size w).alloc (Nat.le_refl _) (.cells #[.int .i64 n, .int .i64 k, .int .i64 b, .int .i64 d, .int .i64 t, .int .i64 wn, .int .u64 p, .int .u64 r, .int .u64 s, .int .i64 o, .slice ea es.length ec] 25))
  by_cases t2 : k = 1
  case neg =>
    have HT := Lib.hid (show tradeV ⟨n, k, b, d, t, wn, p, r, s, o, ea, ec, es⟩ = false from termsV_nz ⟨n, k, b, d, t, wn, p, r, s, o, ea, ec, es⟩ (Or.inr (Or.inl t2)))
    have c1 : (k != 1) = true := by simpa [maxS] using t2
    clear t2
    go_wp2
    go_ret
    exact ⟨by rw [HT.out]; rfl, HB.out⟩
  have c1 : (k != 1) = false := by simpa [maxS] using t2
  have K1 := Lib.hid t2
  clear t2
  by_cases t2 : r = 0
  case neg =>
    have HT := Lib.hid (show tradeV ⟨n, k, b, d, t, wn, p, r, s, o, ea, ec, es⟩ = false from termsV_nz ⟨n, k, b, d, t, wn, p, r, s, o, ea, ec, es⟩ (by simp [t2]))
    have c2 : (r != 0) = true := by simpa [maxS] using t2
    clear t2
    go_wp2
    go_ret
    exact ⟨by rw [HT.out]; rfl, HB.out⟩
  have c2 : (r != 0) = false := by simpa [maxS] using t2
  have K2 := Lib.hid t2
  clear t2
  by_cases t2 : s = 0
  case neg =>
    have HT := Lib.hid (show tradeV ⟨n, k, b, d, t, wn, p, r, s, o, ea, ec, es⟩ = false from termsV_nz ⟨n, k, b, d, t, wn, p, r, s, o, ea, ec, es⟩ (by simp [t2]))
    have c3 : (s != 0) = true := by simpa [maxS] using t2
    clear t2
    go_wp2
    go_ret
    exact ⟨by rw [HT.out]; rfl, HB.out⟩
  have c3 : (s != 0) = false := by simpa [maxS] using t2
  have K3 := Lib.hid t2
  clear t2
  by_cases t2 : o = 0
  case neg =>
    have HT := Lib.hid (show tradeV ⟨n, k, b, d, t, wn, p, r, s, o, ea, ec, es⟩ = false from termsV_nz ⟨n, k, b, d, t, wn, p, r, s, o, ea, ec, es⟩ (by simp [t2]))
    have c4 : (o != 0) = true := by simpa [maxS] using t2
    clear t2
    go_wp2
    go_ret
    exact ⟨by rw [HT.out]; rfl, HB.out⟩
  have c4 : (o != 0) = false := by simpa [maxS] using t2
  have K4 := Lib.hid t2
  clear t2
  by_cases t2 : 0 ≤ wn
  case neg =>
    have HT := Lib.hid (show tradeV ⟨n, k, b, d, t, wn, p, r, s, o, ea, ec, es⟩ = false from termsV_nz ⟨n, k, b, d, t, wn, p, r, s, o, ea, ec, es⟩ (Or.inr (Or.inr (Or.inr (Or.inr (Or.inr (Or.inl (itemP_neg t2))))))))
    have c5 : decide (wn < 0) = true := by simpa [maxS] using t2
    clear t2
    go_wp2
    go_ret
    exact ⟨by rw [HT.out]; rfl, HB.out⟩
  have c5 : decide (wn < 0) = false := by simpa [maxS] using t2
  have KL := Lib.hid t2
  clear t2
  by_cases t2 : wn ≤ 512
  case neg =>
    have HT := Lib.hid (show tradeV ⟨n, k, b, d, t, wn, p, r, s, o, ea, ec, es⟩ = false from termsV_nz ⟨n, k, b, d, t, wn, p, r, s, o, ea, ec, es⟩ (Or.inr (Or.inr (Or.inr (Or.inr (Or.inr (Or.inl (itemP_big t2))))))))
    have c6 : decide (wn > 512) = true := by simpa [maxS] using t2
    clear t2
    go_wp2
    go_ret
    exact ⟨by rw [HT.out]; rfl, HB.out⟩
  have c6 : decide (wn > 512) = false := by simpa [maxS] using t2
  have KH := Lib.hid t2
  clear t2
  have K5 := Lib.hid (itemP_yes KL.out KH.out)
  by_cases t2 : p ≤ maxS
  case neg =>
    have HT := Lib.hid (show tradeV ⟨n, k, b, d, t, wn, p, r, s, o, ea, ec, es⟩ = false from termsV_nz ⟨n, k, b, d, t, wn, p, r, s, o, ea, ec, es⟩ (Or.inr (Or.inr (Or.inr (Or.inr (Or.inr (Or.inr (Or.inl (show p > maxS by omega)))))))))
    have c7 : decide (p > 4611686018427387904) = true := by simpa [maxS] using t2
    clear t2
    go_wp2
    go_ret
    exact ⟨by rw [HT.out]; rfl, HB.out⟩
  have c7 : decide (p > 4611686018427387904) = false := by simpa [maxS] using t2
  have K6 := Lib.hid t2
  clear t2
  by_cases t2 : wn = 0
  case pos =>
    have c9 : (wn == 0) = true := by simpa using t2
    have KW := Lib.hid t2
    clear t2
    by_cases t2 : p ≠ 0
    case neg =>
      have HT := Lib.hid (show tradeV ⟨n, k, b, d, t, wn, p, r, s, o, ea, ec, es⟩ = false from termsV_nz ⟨n, k, b, d, t, wn, p, r, s, o, ea, ec, es⟩ (Or.inr (Or.inr (Or.inr (Or.inr (Or.inr (Or.inr (Or.inr ⟨KW.out, Classical.not_not.1 t2⟩))))))))
      have c10 : (p == 0) = true := by simpa [maxS] using t2
      clear t2
      go_wp2
      go_ret
      exact ⟨by rw [HT.out]; rfl, HB.out⟩
    have c10 : (p == 0) = false := by simpa [maxS] using t2
    have KP := Lib.hid t2
    clear t2
    have K7 := Lib.hid (show ¬ (wn = 0 ∧ p = 0) from fun h => KP.out h.2)
    by_cases t2 : t ≠ b
    case neg =>
      have HT := Lib.hid (show tradeV ⟨n, k, b, d, t, wn, p, r, s, o, ea, ec, es⟩ = false from termsV_nz ⟨n, k, b, d, t, wn, p, r, s, o, ea, ec, es⟩ (Or.inl (Classical.not_not.1 t2)))
      have c11 : (t == b) = true := by simpa using t2
      clear t2
      go_wp2
      go_ret
      exact ⟨by rw [HT.out]; rfl, HB.out⟩
    have c11 : (t == b) = false := by simpa using t2
    have HN := Lib.hid (show ¬ (k = 1 ∧ t = b) from fun h => t2 h.2)
    clear t2
    have NB := Lib.hid (termsV_b ⟨n, k, b, d, t, wn, p, r, s, o, ea, ec, es⟩ HN.out (fun h => h.elim (fun h => h K1.out) fun h => h.elim (fun h => h K2.out) fun h => h.elim (fun h => h K3.out) fun h => h.elim (fun h => h K4.out) fun h => h.elim (fun h => absurd (K5.out.symm.trans h) (by simp)) fun h => h.elim (fun h => absurd h (Int.not_lt.2 K6.out)) fun h => K7.out h))
    by_cases hl : es.length = 1
    case neg =>
      have HT := Lib.hid (show tradeV ⟨n, k, b, d, t, wn, p, r, s, o, ea, ec, es⟩ = false from nz_of NB.out (termsE_n b wn es hl))
      have c8 : ((es.length : Int) != 1) = true := bne_iff_ne.2 (by omega)
      clear hl
      go_wp2
      go_ret
      exact ⟨by rw [HT.out]; rfl, HB.out⟩
    have c8 : ((es.length : Int) != 1) = false := by rw [hl]; rfl
    obtain ⟨x, hx⟩ := List.length_eq_one_iff.1 hl
    obtain ⟨ob, oo, hea, f0, f1, f2, f3, f4⟩ := (HC.out.kept HB.out).one hx
    simp only at hea f0 f1 f2 f3 f4
    subst hea
    have HE := Lib.hid hx
    have HL := Lib.hid hl
    have i1 : (0 : Int) < (es.length : Int) := by omega
    clear hl hx
    obtain ⟨xa, xi, xc, xp, xw, xk, xs⟩ := x
    simp only at f0 f1 f2 f3 f4
    go_wp2_with fail
    refine (rbare_any ⟨xa, xi, xc, xp, xw, xk, xs⟩ _).mono ?_
    rintro e w1 ⟨rfl, hb⟩
    have r1 : w1.heap[w.heap.size]? = some (.cells #[.int .i64 n, .int .i64 k, .int .i64 b, .int .i64 d, .int .i64 t, .int .i64 wn, .int .u64 p, .int .u64 r, .int .u64 s, .int .i64 o, .slice (some ⟨ob, oo, none⟩) es.length ec] 25) := row_kept (alloc_old (alloc_at rfl)) hb
    have r2 : w1.heap[w.heap.size + 1]? = some (.cells #[.int .i64 xa, .int .i64 xi, .int .u64 xc, .int .u64 xp, .slice xw xs.length xk] 44) := row_kept (alloc_at (by simp)) hb
    have HB3 := Lib.hid (((HB.out.alloc (by simp) (.cells #[.int .i64 xa, .int .i64 xi, .int .u64 xc, .int .u64 xp, .slice xw xs.length xk] 44))).trans (hb.mono (by simp; omega)))
    have z2 : w1.cell? ⟨w.heap.size, 2, none⟩ = some (.int .i64 b) := by rw [cell_of_row _ _ _ _ _ _ r1]; rfl
    have z5 : w1.cell? ⟨w.heap.size, 5, none⟩ = some (.int .i64 wn) := by rw [cell_of_row _ _ _ _ _ _ r1]; rfl
    have y0 : w1.cell? ⟨w.heap.size + 1, 0, none⟩ = some (.int .i64 xa) := by rw [cell_of_row _ _ _ _ _ _ r2]; rfl
    have y1 : w1.cell? ⟨w.heap.size + 1, 1, none⟩ = some (.int .i64 xi) := by rw [cell_of_row _ _ _ _ _ _ r2]; rfl
    have y2 : w1.cell? ⟨w.heap.size + 1, 2, none⟩ = some (.int .u64 xc) := by rw [cell_of_row _ _ _ _ _ _ r2]; rfl
    clear hb r1 r2 f0 f1 f2 f3 f4
    by_cases t2 : bareP ⟨xa, xi, xc, xp, xw, xk, xs⟩ = true
    case neg =>
      have HT := Lib.hid (show tradeV ⟨n, k, b, d, t, wn, p, r, s, o, some ⟨ob, oo, none⟩, ec, es⟩ = false from nz_of NB.out ((congrArg _ HE.out).trans (termsE_y b wn ⟨xa, xi, xc, xp, xw, xk, xs⟩ (Or.inl (by simpa using t2)))))
      have d0 : bareP ⟨xa, xi, xc, xp, xw, xk, xs⟩ = false := by simpa using t2
      clear t2
      go_wp2
      go_ret
      exact ⟨by rw [HT.out]; rfl, HB3.out⟩
    have d0 : bareP ⟨xa, xi, xc, xp, xw, xk, xs⟩ = true := t2
    have J0 := Lib.hid t2
    clear t2
    by_cases t2 : xa = b
    case neg =>
      have HT := Lib.hid (show tradeV ⟨n, k, b, d, t, wn, p, r, s, o, some ⟨ob, oo, none⟩, ec, es⟩ = false from nz_of NB.out ((congrArg _ HE.out).trans (termsE_y b wn ⟨xa, xi, xc, xp, xw, xk, xs⟩ (Or.inr (Or.inl t2)))))
      have d1 : (xa != b) = true := by simpa [maxS] using t2
      clear t2
      go_wp2
      go_ret
      exact ⟨by rw [HT.out]; rfl, HB3.out⟩
    have d1 : (xa != b) = false := by simpa [maxS] using t2
    have J1 := Lib.hid t2
    clear t2
    by_cases t2 : 0 ≤ xi
    case neg =>
      have HT := Lib.hid (show tradeV ⟨n, k, b, d, t, wn, p, r, s, o, some ⟨ob, oo, none⟩, ec, es⟩ = false from nz_of NB.out ((congrArg _ HE.out).trans (termsE_y b wn ⟨xa, xi, xc, xp, xw, xk, xs⟩ (Or.inr (Or.inr (Or.inl (itemP_neg t2)))))))
      have d2 : decide (xi < 0) = true := by simpa [maxS] using t2
      clear t2
      go_wp2
      go_ret
      exact ⟨by rw [HT.out]; rfl, HB3.out⟩
    have d2 : decide (xi < 0) = false := by simpa [maxS] using t2
    have JL := Lib.hid t2
    clear t2
    by_cases t2 : xi ≤ 512
    case neg =>
      have HT := Lib.hid (show tradeV ⟨n, k, b, d, t, wn, p, r, s, o, some ⟨ob, oo, none⟩, ec, es⟩ = false from nz_of NB.out ((congrArg _ HE.out).trans (termsE_y b wn ⟨xa, xi, xc, xp, xw, xk, xs⟩ (Or.inr (Or.inr (Or.inl (itemP_big t2)))))))
      have d2' : decide (xi > 512) = true := by simpa [maxS] using t2
      clear t2
      go_wp2
      go_ret
      exact ⟨by rw [HT.out]; rfl, HB3.out⟩
    have d2' : decide (xi > 512) = false := by simpa [maxS] using t2
    have JH := Lib.hid t2
    clear t2
    have J2 := Lib.hid (itemP_yes JL.out JH.out)
    by_cases t2 : xc ≤ maxS
    case neg =>
      have HT := Lib.hid (show tradeV ⟨n, k, b, d, t, wn, p, r, s, o, some ⟨ob, oo, none⟩, ec, es⟩ = false from nz_of NB.out ((congrArg _ HE.out).trans (termsE_y b wn ⟨xa, xi, xc, xp, xw, xk, xs⟩ (Or.inr (Or.inr (Or.inr (Or.inl (show xc > maxS by omega))))))))
      have d3 : decide (xc > 4611686018427387904) = true := by simpa [maxS] using t2
      clear t2
      go_wp2
      go_ret
      exact ⟨by rw [HT.out]; rfl, HB3.out⟩
    have d3 : decide (xc > 4611686018427387904) = false := by simpa [maxS] using t2
    have J3 := Lib.hid t2
    clear t2
    by_cases t3 : xi = 0
    case pos =>
      have d4 : (xi == 0) = true := by simpa using t3
      by_cases t2 : xc ≠ 0
      case neg =>
        have t3' := Lib.hid t3
        clear t3
        have HT := Lib.hid (show tradeV ⟨n, k, b, d, t, wn, p, r, s, o, some ⟨ob, oo, none⟩, ec, es⟩ = false from nz_of NB.out ((congrArg _ HE.out).trans (termsE_y b wn ⟨xa, xi, xc, xp, xw, xk, xs⟩ (Or.inr (Or.inr (Or.inr (Or.inr (Or.inl ⟨t3'.out, Classical.not_not.1 t2⟩))))))))
        have d5 : (xc != 0) = false := by simpa using t2
        clear t2
        go_wp2
        go_ret
        exact ⟨by rw [HT.out]; rfl, HB3.out⟩
      have d5 : (xc != 0) = true := by simpa using t2
      have JA := Lib.hid (show ¬ (xi = 0 ∧ xc = 0) from fun h => t2 h.2)
      have JB := Lib.hid (show ¬ (xi ≠ 0 ∧ xi = wn) from fun h => h.1 t3)
      clear t2 t3
      have HT := Lib.hid (show tradeV ⟨n, k, b, d, t, wn, p, r, s, o, some ⟨ob, oo, none⟩, ec, es⟩ = true from z_of NB.out ((congrArg _ HE.out).trans (termsE_z b wn ⟨xa, xi, xc, xp, xw, xk, xs⟩ (fun h => h.elim (fun h => absurd (J0.out.symm.trans h) (by simp)) fun h => h.elim (fun h => h J1.out) fun h => h.elim (fun h => absurd (J2.out.symm.trans h) (by simp)) fun h => h.elim (fun h => absurd h (Int.not_lt.2 J3.out)) fun h => h.elim JA.out JB.out))))
      go_wp2
      go_ret
      exact ⟨by rw [HT.out]; rfl, HB3.out⟩
    have d4 : (xi == 0) = false := by simpa using t3
    have JA := Lib.hid (show ¬ (xi = 0 ∧ xc = 0) from fun h => t3 h.1)
    have t3' := Lib.hid t3
    clear t3
    by_cases t2 : xi ≠ wn
    case neg =>
      have HT := Lib.hid (show tradeV ⟨n, k, b, d, t, wn, p, r, s, o, some ⟨ob, oo, none⟩, ec, es⟩ = false from nz_of NB.out ((congrArg _ HE.out).trans (termsE_y b wn ⟨xa, xi, xc, xp, xw, xk, xs⟩ (Or.inr (Or.inr (Or.inr (Or.inr (Or.inr ⟨t3'.out, Classical.not_not.1 t2⟩))))))))
      have d5 : (xi != wn) = false := by simpa using t2
      clear t2
      go_wp2
      go_ret
      exact ⟨by rw [HT.out]; rfl, HB3.out⟩
    have d5 : (xi != wn) = true := by simpa using t2
    have JB := Lib.hid (show ¬ (xi ≠ 0 ∧ xi = wn) from fun h => t2 h.2)
    clear t2
    have HT := Lib.hid (show tradeV ⟨n, k, b, d, t, wn, p, r, s, o, some ⟨ob, oo, none⟩, ec, es⟩ = true from z_of NB.out ((congrArg _ HE.out).trans (termsE_z b wn ⟨xa, xi, xc, xp, xw, xk, xs⟩ (fun h => h.elim (fun h => absurd (J0.out.symm.trans h) (by simp)) fun h => h.elim (fun h => h J1.out) fun h => h.elim (fun h => absurd (J2.out.symm.trans h) (by simp)) fun h => h.elim (fun h => absurd h (Int.not_lt.2 J3.out)) fun h => h.elim JA.out JB.out))))
    go_wp2
    go_ret
    exact ⟨by rw [HT.out]; rfl, HB3.out⟩
  case neg =>
    have c9 : (wn == 0) = false := by simpa using t2
    have K7 := Lib.hid (show ¬ (wn = 0 ∧ p = 0) from fun h => t2 h.1)
    clear t2
    by_cases t2 : t ≠ b
    case neg =>
      have HT := Lib.hid (show tradeV ⟨n, k, b, d, t, wn, p, r, s, o, ea, ec, es⟩ = false from termsV_nz ⟨n, k, b, d, t, wn, p, r, s, o, ea, ec, es⟩ (Or.inl (Classical.not_not.1 t2)))
      have c11 : (t == b) = true := by simpa using t2
      clear t2
      go_wp2
      go_ret
      exact ⟨by rw [HT.out]; rfl, HB.out⟩
    have c11 : (t == b) = false := by simpa using t2
    have HN := Lib.hid (show ¬ (k = 1 ∧ t = b) from fun h => t2 h.2)
    clear t2
    have NB := Lib.hid (termsV_b ⟨n, k, b, d, t, wn, p, r, s, o, ea, ec, es⟩ HN.out (fun h => h.elim (fun h => h K1.out) fun h => h.elim (fun h => h K2.out) fun h => h.elim (fun h => h K3.out) fun h => h.elim (fun h => h K4.out) fun h => h.elim (fun h => absurd (K5.out.symm.trans h) (by simp)) fun h => h.elim (fun h => absurd h (Int.not_lt.2 K6.out)) fun h => K7.out h))
    by_cases hl : es.length = 1
    case neg =>
      have HT := Lib.hid (show tradeV ⟨n, k, b, d, t, wn, p, r, s, o, ea, ec, es⟩ = false from nz_of NB.out (termsE_n b wn es hl))
      have c8 : ((es.length : Int) != 1) = true := bne_iff_ne.2 (by omega)
      clear hl
      go_wp2
      go_ret
      exact ⟨by rw [HT.out]; rfl, HB.out⟩
    have c8 : ((es.length : Int) != 1) = false := by rw [hl]; rfl
    obtain ⟨x, hx⟩ := List.length_eq_one_iff.1 hl
    obtain ⟨ob, oo, hea, f0, f1, f2, f3, f4⟩ := (HC.out.kept HB.out).one hx
    simp only at hea f0 f1 f2 f3 f4
    subst hea
    have HE := Lib.hid hx
    have HL := Lib.hid hl
    have i1 : (0 : Int) < (es.length : Int) := by omega
    clear hl hx
    obtain ⟨xa, xi, xc, xp, xw, xk, xs⟩ := x
    simp only at f0 f1 f2 f3 f4
    go_wp2_with fail
    refine (rbare_any ⟨xa, xi, xc, xp, xw, xk, xs⟩ _).mono ?_
    rintro e w1 ⟨rfl, hb⟩
    have r1 : w1.heap[w.heap.size]? = some (.cells #[.int .i64 n, .int .i64 k, .int .i64 b, .int .i64 d, .int .i64 t, .int .i64 wn, .int .u64 p, .int .u64 r, .int .u64 s, .int .i64 o, .slice (some ⟨ob, oo, none⟩) es.length ec] 25) := row_kept (alloc_old (alloc_at rfl)) hb
    have r2 : w1.heap[w.heap.size + 1]? = some (.cells #[.int .i64 xa, .int .i64 xi, .int .u64 xc, .int .u64 xp, .slice xw xs.length xk] 44) := row_kept (alloc_at (by simp)) hb
    have HB3 := Lib.hid (((HB.out.alloc (by simp) (.cells #[.int .i64 xa, .int .i64 xi, .int .u64 xc, .int .u64 xp, .slice xw xs.length xk] 44))).trans (hb.mono (by simp; omega)))
    have z2 : w1.cell? ⟨w.heap.size, 2, none⟩ = some (.int .i64 b) := by rw [cell_of_row _ _ _ _ _ _ r1]; rfl
    have z5 : w1.cell? ⟨w.heap.size, 5, none⟩ = some (.int .i64 wn) := by rw [cell_of_row _ _ _ _ _ _ r1]; rfl
    have y0 : w1.cell? ⟨w.heap.size + 1, 0, none⟩ = some (.int .i64 xa) := by rw [cell_of_row _ _ _ _ _ _ r2]; rfl
    have y1 : w1.cell? ⟨w.heap.size + 1, 1, none⟩ = some (.int .i64 xi) := by rw [cell_of_row _ _ _ _ _ _ r2]; rfl
    have y2 : w1.cell? ⟨w.heap.size + 1, 2, none⟩ = some (.int .u64 xc) := by rw [cell_of_row _ _ _ _ _ _ r2]; rfl
    clear hb r1 r2 f0 f1 f2 f3 f4
    by_cases t2 : bareP ⟨xa, xi, xc, xp, xw, xk, xs⟩ = true
    case neg =>
      have HT := Lib.hid (show tradeV ⟨n, k, b, d, t, wn, p, r, s, o, some ⟨ob, oo, none⟩, ec, es⟩ = false from nz_of NB.out ((congrArg _ HE.out).trans (termsE_y b wn ⟨xa, xi, xc, xp, xw, xk, xs⟩ (Or.inl (by simpa using t2)))))
      have d0 : bareP ⟨xa, xi, xc, xp, xw, xk, xs⟩ = false := by simpa using t2
      clear t2
      go_wp2
      go_ret
      exact ⟨by rw [HT.out]; rfl, HB3.out⟩
    have d0 : bareP ⟨xa, xi, xc, xp, xw, xk, xs⟩ = true := t2
    have J0 := Lib.hid t2
    clear t2
    by_cases t2 : xa = b
    case neg =>
      have HT := Lib.hid (show tradeV ⟨n, k, b, d, t, wn, p, r, s, o, some ⟨ob, oo, none⟩, ec, es⟩ = false from nz_of NB.out ((congrArg _ HE.out).trans (termsE_y b wn ⟨xa, xi, xc, xp, xw, xk, xs⟩ (Or.inr (Or.inl t2)))))
      have d1 : (xa != b) = true := by simpa [maxS] using t2
      clear t2
      go_wp2
      go_ret
      exact ⟨by rw [HT.out]; rfl, HB3.out⟩
    have d1 : (xa != b) = false := by simpa [maxS] using t2
    have J1 := Lib.hid t2
    clear t2
    by_cases t2 : 0 ≤ xi
    case neg =>
      have HT := Lib.hid (show tradeV ⟨n, k, b, d, t, wn, p, r, s, o, some ⟨ob, oo, none⟩, ec, es⟩ = false from nz_of NB.out ((congrArg _ HE.out).trans (termsE_y b wn ⟨xa, xi, xc, xp, xw, xk, xs⟩ (Or.inr (Or.inr (Or.inl (itemP_neg t2)))))))
      have d2 : decide (xi < 0) = true := by simpa [maxS] using t2
      clear t2
      go_wp2
      go_ret
      exact ⟨by rw [HT.out]; rfl, HB3.out⟩
    have d2 : decide (xi < 0) = false := by simpa [maxS] using t2
    have JL := Lib.hid t2
    clear t2
    by_cases t2 : xi ≤ 512
    case neg =>
      have HT := Lib.hid (show tradeV ⟨n, k, b, d, t, wn, p, r, s, o, some ⟨ob, oo, none⟩, ec, es⟩ = false from nz_of NB.out ((congrArg _ HE.out).trans (termsE_y b wn ⟨xa, xi, xc, xp, xw, xk, xs⟩ (Or.inr (Or.inr (Or.inl (itemP_big t2)))))))
      have d2' : decide (xi > 512) = true := by simpa [maxS] using t2
      clear t2
      go_wp2
      go_ret
      exact ⟨by rw [HT.out]; rfl, HB3.out⟩
    have d2' : decide (xi > 512) = false := by simpa [maxS] using t2
    have JH := Lib.hid t2
    clear t2
    have J2 := Lib.hid (itemP_yes JL.out JH.out)
    by_cases t2 : xc ≤ maxS
    case neg =>
      have HT := Lib.hid (show tradeV ⟨n, k, b, d, t, wn, p, r, s, o, some ⟨ob, oo, none⟩, ec, es⟩ = false from nz_of NB.out ((congrArg _ HE.out).trans (termsE_y b wn ⟨xa, xi, xc, xp, xw, xk, xs⟩ (Or.inr (Or.inr (Or.inr (Or.inl (show xc > maxS by omega))))))))
      have d3 : decide (xc > 4611686018427387904) = true := by simpa [maxS] using t2
      clear t2
      go_wp2
      go_ret
      exact ⟨by rw [HT.out]; rfl, HB3.out⟩
    have d3 : decide (xc > 4611686018427387904) = false := by simpa [maxS] using t2
    have J3 := Lib.hid t2
    clear t2
    by_cases t3 : xi = 0
    case pos =>
      have d4 : (xi == 0) = true := by simpa using t3
      by_cases t2 : xc ≠ 0
      case neg =>
        have t3' := Lib.hid t3
        clear t3
        have HT := Lib.hid (show tradeV ⟨n, k, b, d, t, wn, p, r, s, o, some ⟨ob, oo, none⟩, ec, es⟩ = false from nz_of NB.out ((congrArg _ HE.out).trans (termsE_y b wn ⟨xa, xi, xc, xp, xw, xk, xs⟩ (Or.inr (Or.inr (Or.inr (Or.inr (Or.inl ⟨t3'.out, Classical.not_not.1 t2⟩))))))))
        have d5 : (xc != 0) = false := by simpa using t2
        clear t2
        go_wp2
        go_ret
        exact ⟨by rw [HT.out]; rfl, HB3.out⟩
      have d5 : (xc != 0) = true := by simpa using t2
      have JA := Lib.hid (show ¬ (xi = 0 ∧ xc = 0) from fun h => t2 h.2)
      have JB := Lib.hid (show ¬ (xi ≠ 0 ∧ xi = wn) from fun h => h.1 t3)
      clear t2 t3
      have HT := Lib.hid (show tradeV ⟨n, k, b, d, t, wn, p, r, s, o, some ⟨ob, oo, none⟩, ec, es⟩ = true from z_of NB.out ((congrArg _ HE.out).trans (termsE_z b wn ⟨xa, xi, xc, xp, xw, xk, xs⟩ (fun h => h.elim (fun h => absurd (J0.out.symm.trans h) (by simp)) fun h => h.elim (fun h => h J1.out) fun h => h.elim (fun h => absurd (J2.out.symm.trans h) (by simp)) fun h => h.elim (fun h => absurd h (Int.not_lt.2 J3.out)) fun h => h.elim JA.out JB.out))))
      go_wp2
      go_ret
      exact ⟨by rw [HT.out]; rfl, HB3.out⟩
    have d4 : (xi == 0) = false := by simpa using t3
    have JA := Lib.hid (show ¬ (xi = 0 ∧ xc = 0) from fun h => t3 h.1)
    have t3' := Lib.hid t3
    clear t3
    by_cases t2 : xi ≠ wn
    case neg =>
      have HT := Lib.hid (show tradeV ⟨n, k, b, d, t, wn, p, r, s, o, some ⟨ob, oo, none⟩, ec, es⟩ = false from nz_of NB.out ((congrArg _ HE.out).trans (termsE_y b wn ⟨xa, xi, xc, xp, xw, xk, xs⟩ (Or.inr (Or.inr (Or.inr (Or.inr (Or.inr ⟨t3'.out, Classical.not_not.1 t2⟩))))))))
      have d5 : (xi != wn) = false := by simpa using t2
      clear t2
      go_wp2
      go_ret
      exact ⟨by rw [HT.out]; rfl, HB3.out⟩
    have d5 : (xi != wn) = true := by simpa using t2
    have JB := Lib.hid (show ¬ (xi ≠ 0 ∧ xi = wn) from fun h => t2 h.2)
    clear t2
    have HT := Lib.hid (show tradeV ⟨n, k, b, d, t, wn, p, r, s, o, some ⟨ob, oo, none⟩, ec, es⟩ = true from z_of NB.out ((congrArg _ HE.out).trans (termsE_z b wn ⟨xa, xi, xc, xp, xw, xk, xs⟩ (fun h => h.elim (fun h => absurd (J0.out.symm.trans h) (by simp)) fun h => h.elim (fun h => h J1.out) fun h => h.elim (fun h => absurd (J2.out.symm.trans h) (by simp)) fun h => h.elim (fun h => absurd h (Int.not_lt.2 J3.out)) fun h => h.elim JA.out JB.out))))
    go_wp2
    go_ret
    exact ⟨by rw [HT.out]; rfl, HB3.out⟩
theorem termsV_val (c : Con) : termsV c = if c.kind = 1 ∧ c.to = c.by' then 234 else if tradeV c = true then 0 else 200 := by
  unfold tradeV
  by_cases h : c.kind = 1 ∧ c.to = c.by'
  · unfold termsV; rw [if_pos h, if_pos h]
  · rw [if_neg h]
    by_cases h2 : c.kind ≠ 1 ∨ c.reserve ≠ 0 ∨ c.step ≠ 0 ∨ c.of' ≠ 0 ∨ itemP c.want = false ∨ c.price > maxS ∨ (c.want = 0 ∧ c.price = 0)
    · rw [termsV_a c h h2]; rfl
    · rw [termsV_b c h h2]
      rcases termsE_le c.by' c.want c.es with e | e <;> rw [e] <;> rfl
set_option maxRecDepth 100000 in
theorem rterms_any (c : Con) (w : World) (hc : ConOk w c) :
    Calls Try.prog 21 #[c.agg] w fun e w' => e = .returned (.int .i64 (termsV c)) ∧ Below w.heap.size w w' := by
  have HV := Lib.hid (termsV_val c)
  have HK := Lib.hid (fun V (h : Below w.heap.size w V) => rtrade_any c V (hc.kept h))
  clear hc
  obtain ⟨n, k, b, d, t, wn, p, r, s, o, ea, ec, es⟩ := c
  unfold Con.agg at HK ⊢
  simp only at HV HK ⊢
  go_enter Try.func21, Try.ntmps21
  have HB := Lib.hid ((Below.refl w.heap.size w).alloc (Nat.le_refl _) (.cells #[.int .i64 n, .int .i64 k, .int .i64 b, .int .i64 d, .int .i64 t, .int .i64 wn, .int .u64 p, .int .u64 r, .int .u64 s, .int .i64 o, .slice ea es.length ec] 25))
  by_cases h : k = 1 ∧ t = b
  · have HT := Lib.hid (HV.out.trans (if_pos h))
    have c1 : (k == 1) = true := by simpa using h.1
    have c2 : (t == b) = true := by simpa using h.2
    clear h
    go_wp2
    go_ret
    exact ⟨by rw [HT.out]; rfl, HB.out⟩
  · have HT := Lib.hid (HV.out.trans (if_neg h))
    by_cases k1 : k = 1
    · have c1 : (k == 1) = true := by simpa using k1
      have c2 : (t == b) = false := by simpa using fun h' => h ⟨k1, h'⟩
      clear h k1
      go_wp2_with fail
      refine (HK.out _ HB.out).mono ?_
      rintro e w1 ⟨rfl, hb⟩
      have HB3 := Lib.hid (HB.out.trans (hb.mono (by simp)))
      clear hb
      by_cases t2 : tradeV ⟨n, k, b, d, t, wn, p, r, s, o, ea, ec, es⟩ = true
      · have HT2 := Lib.hid (HT.out.trans (if_pos t2))
        go_wp2
        go_ret
        exact ⟨by rw [HT2.out]; rfl, HB3.out⟩
      · have HT2 := Lib.hid (HT.out.trans (if_neg t2))
        have t2' : tradeV ⟨n, k, b, d, t, wn, p, r, s, o, ea, ec, es⟩ = false := by simpa using t2
        clear t2
        go_wp2
        go_ret
        exact ⟨by rw [HT2.out]; rfl, HB3.out⟩
    · have c1 : (k == 1) = false := by simpa using k1
      clear h k1
      go_wp2_with fail
      refine (HK.out _ HB.out).mono ?_
      rintro e w1 ⟨rfl, hb⟩
      have HB3 := Lib.hid (HB.out.trans (hb.mono (by simp)))
      clear hb
      by_cases t2 : tradeV ⟨n, k, b, d, t, wn, p, r, s, o, ea, ec, es⟩ = true
      · have HT2 := Lib.hid (HT.out.trans (if_pos t2))
        go_wp2
        go_ret
        exact ⟨by rw [HT2.out]; rfl, HB3.out⟩
      · have HT2 := Lib.hid (HT.out.trans (if_neg t2))
        have t2' : tradeV ⟨n, k, b, d, t, wn, p, r, s, o, ea, ec, es⟩ = false := by simpa using t2
        clear t2
        go_wp2
        go_ret
        exact ⟨by rw [HT2.out]; rfl, HB3.out⟩
end Go.Proofs.Ytiafhgcnjgpeaaa
