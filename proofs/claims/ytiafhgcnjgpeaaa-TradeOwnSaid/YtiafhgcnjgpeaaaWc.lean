/-
  Layer 20: the terms of a contract, walked: the program's and the document's.
-/
import Derived.Test.YtiafhgcnjgpeaaaWb
namespace Go.Proofs.Ytiafhgcnjgpeaaa
open Go.RowKit Go.K
set_option linter.unusedVariables false
set_option linter.unusedSimpArgs false

/-- The terms behind the contract's own numbers. -/
def termsE (b wn : Int) (es : List Ent) : Int :=
  match es with
    | [e] => if bareP e = false ∨ e.acc ≠ b ∨ itemP e.item = false ∨ e.coins > maxS ∨ (e.item = 0 ∧ e.coins = 0) ∨ (e.item ≠ 0 ∧ e.item = wn) then 200 else 0
    | _ => 200
theorem termsV_a (c : Con) (h : ¬ (c.kind = 1 ∧ c.to = c.by')) (h2 : c.kind ≠ 1 ∨ c.reserve ≠ 0 ∨ c.step ≠ 0 ∨ c.of' ≠ 0 ∨ itemP c.want = false ∨ c.price > maxS ∨ (c.want = 0 ∧ c.price = 0)) : termsV c = 200 := by
  unfold termsV; rw [if_neg h, if_pos h2]
theorem termsV_b (c : Con) (h : ¬ (c.kind = 1 ∧ c.to = c.by')) (h2 : ¬ (c.kind ≠ 1 ∨ c.reserve ≠ 0 ∨ c.step ≠ 0 ∨ c.of' ≠ 0 ∨ itemP c.want = false ∨ c.price > maxS ∨ (c.want = 0 ∧ c.price = 0))) : termsV c = termsE c.by' c.want c.es := by
  unfold termsV; rw [if_neg h, if_neg h2]; rfl
theorem termsE_n (b wn : Int) (es : List Ent) (h : es.length ≠ 1) : termsE b wn es = 200 := by
  rcases es with _ | ⟨e, _ | ⟨e2, l⟩⟩
  · rfl
  · exact absurd rfl h
  · rfl
theorem termsE_y (b wn : Int) (e : Ent) (h : bareP e = false ∨ e.acc ≠ b ∨ itemP e.item = false ∨ e.coins > maxS ∨ (e.item = 0 ∧ e.coins = 0) ∨ (e.item ≠ 0 ∧ e.item = wn)) : termsE b wn [e] = 200 := if_pos h
theorem termsE_z (b wn : Int) (e : Ent) (h : ¬ (bareP e = false ∨ e.acc ≠ b ∨ itemP e.item = false ∨ e.coins > maxS ∨ (e.item = 0 ∧ e.coins = 0) ∨ (e.item ≠ 0 ∧ e.item = wn))) : termsE b wn [e] = 0 := if_neg h
theorem ConOk.one {W : World} {c : Con} {x : Ent} (h : ConOk W c) (hx : c.es = [x]) : ∃ b off, c.ea = some ⟨b, off, none⟩ ∧
    W.cell? ⟨b, off, none⟩ = some (.int .i64 x.acc) ∧ W.cell? ⟨b, off + 1, none⟩ = some (.int .i64 x.item) ∧ W.cell? ⟨b, off + 2, none⟩ = some (.int .u64 x.coins) ∧
    W.cell? ⟨b, off + 3, none⟩ = some (.int .u64 x.price) ∧ W.cell? ⟨b, off + 4, none⟩ = some (.slice x.wa x.ws.length x.wc) := by
  obtain ⟨b, off, he, f⟩ := h.ent 0 (by rw [hx]; exact Nat.zero_lt_one)
  have e : c.es[0]'(by rw [hx]; exact Nat.zero_lt_one) = x := by simp [hx]
  rw [e, Nat.zero_mul, Nat.add_zero] at f
  exact ⟨b, off, he, f⟩
theorem row_of_alloc {w W : World} {o : Obj} (h : W = w.alloc o) : W.heap[w.heap.size]? = some o := by subst h; exact alloc_at rfl

set_option maxRecDepth 100000 in
set_option maxHeartbeats 8000000 in
theorem terms_any (c : Con) (w : World) (hc : ConOk w c) :
    Calls Try.prog 17 #[c.agg] w fun e w' => e = .returned (.int .i64 (termsV c)) ∧ Below w.heap.size w w' := by
  have HC := Lib.hid hc
  clear hc
  unfold Con.agg
  obtain ⟨n, k, b, d, t, wn, p, r, s, o, ea, ec, es⟩ := c
  go_enter Try.func17, Try.ntmps17
  have HB := Lib.hid ((Below.refl w.heap.size w).alloc (Nat.le_refl _) (.cells #[.int .i64 n, .int .i64 k, .int .i64 b, .int .i64 d, .int .i64 t, .int .i64 wn, .int .u64 p, .int .u64 r, .int .u64 s, .int .i64 o, .slice ea es.length ec] 25))
  by_cases k1 : k = 1
  case neg =>
    have HN := Lib.hid (show ¬ (k = 1 ∧ t = b) from fun h => k1 h.1)
    have c1 : (k == 1) = false := by simpa using k1
    have c1' : (k != 1) = true := by simpa using k1
    have t2 := k1
    clear k1
    have HT := Lib.hid (termsV_a ⟨n, k, b, d, t, wn, p, r, s, o, ea, ec, es⟩ HN.out (Or.inl t2))
    clear t2
    go_wp2
    go_ret
    exact ⟨by rw [HT.out]; rfl, HB.out⟩
  by_cases t1 : t = b
  case pos =>
    have HT := Lib.hid (show termsV ⟨n, k, b, d, t, wn, p, r, s, o, ea, ec, es⟩ = 234 by unfold termsV; rw [if_pos ⟨k1, t1⟩])
    have c1 : (k == 1) = true := by simpa using k1
    have c2 : (t == b) = true := by simpa using t1
    clear k1 t1
    go_wp2
    go_ret
    exact ⟨by rw [HT.out]; rfl, HB.out⟩
  have HN := Lib.hid (show ¬ (k = 1 ∧ t = b) from fun h => t1 h.2)
  have c1 : (k == 1) = true := by simpa using k1
  have c1' : (k != 1) = false := by simpa using k1
  have c2 : (t == b) = false := by simpa using t1
  have K1 := Lib.hid k1
  clear k1 t1
  by_cases t2 : r = 0
  case neg =>
    have HT := Lib.hid (termsV_a ⟨n, k, b, d, t, wn, p, r, s, o, ea, ec, es⟩ HN.out (by simp [t2]))
    have c3 : (r != 0) = true := by simpa [maxS] using t2
    clear t2
    go_wp2
    go_ret
    exact ⟨by rw [HT.out]; rfl, HB.out⟩
  have c3 : (r != 0) = false := by simpa [maxS] using t2
  have K2 := Lib.hid t2
  clear t2
  by_cases t2 : s = 0
  case neg =>
    have HT := Lib.hid (termsV_a ⟨n, k, b, d, t, wn, p, r, s, o, ea, ec, es⟩ HN.out (by simp [t2]))
    have c4 : (s != 0) = true := by simpa [maxS] using t2
    clear t2
    go_wp2
    go_ret
    exact ⟨by rw [HT.out]; rfl, HB.out⟩
  have c4 : (s != 0) = false := by simpa [maxS] using t2
  have K3 := Lib.hid t2
  clear t2
  by_cases t2 : o = 0
  case neg =>
    have HT := Lib.hid (termsV_a ⟨n, k, b, d, t, wn, p, r, s, o, ea, ec, es⟩ HN.out (by simp [t2]))
    have c5 : (o != 0) = true := by simpa [maxS] using t2
    clear t2
    go_wp2
    go_ret
    exact ⟨by rw [HT.out]; rfl, HB.out⟩
  have c5 : (o != 0) = false := by simpa [maxS] using t2
  have K4 := Lib.hid t2
  clear t2
  by_cases t2 : itemP wn = true
  case neg =>
    have HT := Lib.hid (termsV_a ⟨n, k, b, d, t, wn, p, r, s, o, ea, ec, es⟩ HN.out (by simp [t2]))
    have c6 : itemP wn = false := by simpa [maxS] using t2
    clear t2
    go_wp2_with fail
    refine (item_any _ _).mono ?_
    rintro e w1 ⟨rfl, rfl⟩
    go_wp2
    go_ret
    exact ⟨by rw [HT.out]; rfl, HB.out⟩
  have c6 : itemP wn = true := by simpa [maxS] using t2
  have K5 := Lib.hid t2
  clear t2
  by_cases t2 : p ≤ maxS
  case neg =>
    have HT := Lib.hid (termsV_a ⟨n, k, b, d, t, wn, p, r, s, o, ea, ec, es⟩ HN.out (Or.inr (Or.inr (Or.inr (Or.inr (Or.inr (Or.inl (show p > maxS by omega))))))))
    have c7 : decide (p > 4611686018427387904) = true := by simpa [maxS] using t2
    clear t2
    go_wp2_with fail
    refine (item_any _ _).mono ?_
    rintro e w1 ⟨rfl, rfl⟩
    go_wp2
    go_ret
    exact ⟨by rw [HT.out]; rfl, HB.out⟩
  have c7 : decide (p > 4611686018427387904) = false := by simpa [maxS] using t2
  have K6 := Lib.hid t2
  clear t2
  by_cases t2 : wn = 0
  case pos =>
    have c9 : (wn == 0) = true := by simpa using t2
    have KW := Lib.hid t2
    clear t2
    by_cases t2 : p ≠ 0
    case neg =>
      have HT := Lib.hid (termsV_a ⟨n, k, b, d, t, wn, p, r, s, o, ea, ec, es⟩ HN.out (Or.inr (Or.inr (Or.inr (Or.inr (Or.inr (Or.inr ⟨KW.out, Classical.not_not.1 t2⟩)))))))
      have c10 : (p == 0) = true := by simpa [maxS] using t2
      clear t2
      go_wp2_with fail
      refine (item_any _ _).mono ?_
      rintro e w1 ⟨rfl, rfl⟩
      go_wp2
      go_ret
      exact ⟨by rw [HT.out]; rfl, HB.out⟩
    have c10 : (p == 0) = false := by simpa [maxS] using t2
    have KP := Lib.hid t2
    clear t2
    have K7 := Lib.hid (show ¬ (wn = 0 ∧ p = 0) from fun h => KP.out h.2)
    have NB := Lib.hid (termsV_b ⟨n, k, b, d, t, wn, p, r, s, o, ea, ec, es⟩ HN.out (fun h => h.elim (fun h => h K1.out) fun h => h.elim (fun h => h K2.out) fun h => h.elim (fun h => h K3.out) fun h => h.elim (fun h => h K4.out) fun h => h.elim (fun h => absurd (K5.out.symm.trans h) (by simp)) fun h => h.elim (fun h => absurd h (Int.not_lt.2 K6.out)) fun h => K7.out h))
    by_cases hl : es.length = 1
    case neg =>
      have HT := Lib.hid (NB.out.trans (termsE_n b wn es hl))
      have c8 : ((es.length : Int) != 1) = true := bne_iff_ne.2 (by omega)
      clear hl
      go_wp2_with fail
      refine (item_any _ _).mono ?_
      rintro e w1 ⟨rfl, rfl⟩
      go_wp2
      go_ret
      exact ⟨by rw [HT.out]; rfl, HB.out⟩
    have c8 : ((es.length : Int) != 1) = false := by rw [hl]; rfl
    obtain ⟨x, hx⟩ := List.length_eq_one_iff.1 hl
    obtain ⟨ob, oo, hea, f0, f1, f2, f3, f4⟩ := (HC.out.kept HB.out).one hx
    simp only at hea f0 f1 f2 f3 f4
    subst hea
    have HE := Lib.hid hx
    have HL := Lib.hid hl
    have i1 : (0 : Int) < (es.length : Int) := by omega
    clear hl hx
    obtain ⟨xa, xi, xc, xp, xw, xk, xs⟩ := x
    simp only at f0 f1 f2 f3 f4
    go_wp2_with fail
    refine (item_any _ _).mono ?_
    rintro e w1 ⟨rfl, rfl⟩
    go_wp2_with fail
    refine (bare_any ⟨xa, xi, xc, xp, xw, xk, xs⟩ _).mono ?_
    rintro e w1 ⟨rfl, hb⟩
    have r1 : w1.heap[w.heap.size]? = some (.cells #[.int .i64 n, .int .i64 k, .int .i64 b, .int .i64 d, .int .i64 t, .int .i64 wn, .int .u64 p, .int .u64 r, .int .u64 s, .int .i64 o, .slice (some ⟨ob, oo, none⟩) es.length ec] 25) := row_kept (alloc_old (alloc_at rfl)) hb
    have r2 : w1.heap[w.heap.size + 1]? = some (.cells #[.int .i64 xa, .int .i64 xi, .int .u64 xc, .int .u64 xp, .slice xw xs.length xk] 44) := row_kept (alloc_at (by simp)) hb
    have HB3 := Lib.hid (((HB.out.alloc (by simp) (.cells #[.int .i64 xa, .int .i64 xi, .int .u64 xc, .int .u64 xp, .slice xw xs.length xk] 44))).trans (hb.mono (by simp; omega)))
    have z2 : w1.cell? ⟨w.heap.size, 2, none⟩ = some (.int .i64 b) := by rw [cell_of_row _ _ _ _ _ _ r1]; rfl
    have z5 : w1.cell? ⟨w.heap.size, 5, none⟩ = some (.int .i64 wn) := by rw [cell_of_row _ _ _ _ _ _ r1]; rfl
    have y0 : w1.cell? ⟨w.heap.size + 1, 0, none⟩ = some (.int .i64 xa) := by rw [cell_of_row _ _ _ _ _ _ r2]; rfl
    have y1 : w1.cell? ⟨w.heap.size + 1, 1, none⟩ = some (.int .i64 xi) := by rw [cell_of_row _ _ _ _ _ _ r2]; rfl
    have y2 : w1.cell? ⟨w.heap.size + 1, 2, none⟩ = some (.int .u64 xc) := by rw [cell_of_row _ _ _ _ _ _ r2]; rfl
    clear hb r1 r2 f0 f1 f2 f3 f4
    by_cases t2 : bareP ⟨xa, xi, xc, xp, xw, xk, xs⟩ = true
    case neg =>
      have HT := Lib.hid (NB.out.trans ((congrArg _ HE.out).trans (termsE_y b wn ⟨xa, xi, xc, xp, xw, xk, xs⟩ (Or.inl (by simpa using t2)))))
      have d0 : bareP ⟨xa, xi, xc, xp, xw, xk, xs⟩ = false := by simpa using t2
      clear t2
      go_wp2
      go_ret
      exact ⟨by rw [HT.out]; rfl, HB3.out⟩
    have d0 : bareP ⟨xa, xi, xc, xp, xw, xk, xs⟩ = true := t2
    have J0 := Lib.hid t2
    clear t2
    by_cases t2 : xa = b
    case neg =>
      have HT := Lib.hid (NB.out.trans ((congrArg _ HE.out).trans (termsE_y b wn ⟨xa, xi, xc, xp, xw, xk, xs⟩ (Or.inr (Or.inl t2)))))
      have d1 : (xa != b) = true := by simpa using t2
      clear t2
      go_wp2
      go_ret
      exact ⟨by rw [HT.out]; rfl, HB3.out⟩
    have d1 : (xa != b) = false := by simpa using t2
    have J1 := Lib.hid t2
    clear t2
    by_cases t2 : itemP xi = true
    case neg =>
      have HT := Lib.hid (NB.out.trans ((congrArg _ HE.out).trans (termsE_y b wn ⟨xa, xi, xc, xp, xw, xk, xs⟩ (Or.inr (Or.inr (Or.inl (by simpa using t2)))))))
      have d2 : itemP xi = false := by simpa using t2
      clear t2
      go_wp2_with fail
      refine (item_any _ _).mono ?_
      rintro e w1 ⟨rfl, rfl⟩
      go_wp2
      go_ret
      exact ⟨by rw [HT.out]; rfl, HB3.out⟩
    have d2 : itemP xi = true := t2
    have J2 := Lib.hid t2
    clear t2
    by_cases t2 : xc ≤ maxS
    case neg =>
      have HT := Lib.hid (NB.out.trans ((congrArg _ HE.out).trans (termsE_y b wn ⟨xa, xi, xc, xp, xw, xk, xs⟩ (Or.inr (Or.inr (Or.inr (Or.inl (show xc > maxS by omega))))))))
      have d3 : decide (xc > 4611686018427387904) = true := by simpa [maxS] using t2
      clear t2
      go_wp2_with fail
      refine (item_any _ _).mono ?_
      rintro e w1 ⟨rfl, rfl⟩
      go_wp2
      go_ret
      exact ⟨by rw [HT.out]; rfl, HB3.out⟩
    have d3 : decide (xc > 4611686018427387904) = false := by simpa [maxS] using t2
    have J3 := Lib.hid t2
    clear t2
    by_cases t3 : xi = 0
    case pos =>
      have d4 : (xi == 0) = true := by simpa using t3
      have d4' : (xi != 0) = false := by simpa using t3
      by_cases t2 : xc ≠ 0
      case neg =>
        have t3' := Lib.hid t3
        clear t3
        have HT := Lib.hid (NB.out.trans ((congrArg _ HE.out).trans (termsE_y b wn ⟨xa, xi, xc, xp, xw, xk, xs⟩ (Or.inr (Or.inr (Or.inr (Or.inr (Or.inl ⟨t3'.out, Classical.not_not.1 t2⟩))))))))
        have d5 : (xc == 0) = true := by simpa using t2
        clear t2
        go_wp2_with fail
        refine (item_any _ _).mono ?_
        rintro e w1 ⟨rfl, rfl⟩
        go_wp2
        go_ret
        exact ⟨by rw [HT.out]; rfl, HB3.out⟩
      have d5 : (xc == 0) = false := by simpa using t2
      have JA := Lib.hid (show ¬ (xi = 0 ∧ xc = 0) from fun h => t2 h.2)
      have JB := Lib.hid (show ¬ (xi ≠ 0 ∧ xi = wn) from fun h => h.1 t3)
      clear t2 t3
      have HT := Lib.hid (NB.out.trans ((congrArg _ HE.out).trans (termsE_z b wn ⟨xa, xi, xc, xp, xw, xk, xs⟩ (fun h => h.elim (fun h => absurd (J0.out.symm.trans h) (by simp)) fun h => h.elim (fun h => h J1.out) fun h => h.elim (fun h => absurd (J2.out.symm.trans h) (by simp)) fun h => h.elim (fun h => absurd h (Int.not_lt.2 J3.out)) fun h => h.elim JA.out JB.out))))
      go_wp2_with fail
      refine (item_any _ _).mono ?_
      rintro e w1 ⟨rfl, rfl⟩
      go_wp2
      go_ret
      exact ⟨by rw [HT.out]; rfl, HB3.out⟩
    have d4 : (xi == 0) = false := by simpa using t3
    have d4' : (xi != 0) = true := by simpa using t3
    have JA := Lib.hid (show ¬ (xi = 0 ∧ xc = 0) from fun h => t3 h.1)
    have t3' := Lib.hid t3
    clear t3
    by_cases t2 : xi ≠ wn
    case neg =>
      have HT := Lib.hid (NB.out.trans ((congrArg _ HE.out).trans (termsE_y b wn ⟨xa, xi, xc, xp, xw, xk, xs⟩ (Or.inr (Or.inr (Or.inr (Or.inr (Or.inr ⟨t3'.out, Classical.not_not.1 t2⟩))))))))
      have d5 : (xi == wn) = true := by simpa using t2
      clear t2
      go_wp2_with fail
      refine (item_any _ _).mono ?_
      rintro e w1 ⟨rfl, rfl⟩
      go_wp2
      go_ret
      exact ⟨by rw [HT.out]; rfl, HB3.out⟩
    have d5 : (xi == wn) = false := by simpa using t2
    have JB := Lib.hid (show ¬ (xi ≠ 0 ∧ xi = wn) from fun h => t2 h.2)
    clear t2
    have HT := Lib.hid (NB.out.trans ((congrArg _ HE.out).trans (termsE_z b wn ⟨xa, xi, xc, xp, xw, xk, xs⟩ (fun h => h.elim (fun h => absurd (J0.out.symm.trans h) (by simp)) fun h => h.elim (fun h => h J1.out) fun h => h.elim (fun h => absurd (J2.out.symm.trans h) (by simp)) fun h => h.elim (fun h => absurd h (Int.not_lt.2 J3.out)) fun h => h.elim JA.out JB.out))))
    go_wp2_with fail
    refine (item_any _ _).mono ?_
    rintro e w1 ⟨rfl, rfl⟩
    go_wp2
    go_ret
    exact ⟨by rw [HT.out]; rfl, HB3.out⟩
  case neg =>
    have c9 : (wn == 0) = false := by simpa using t2
    have K7 := Lib.hid (show ¬ (wn = 0 ∧ p = 0) from fun h => t2 h.1)
    clear t2
    have NB := Lib.hid (termsV_b ⟨n, k, b, d, t, wn, p, r, s, o, ea, ec, es⟩ HN.out (fun h => h.elim (fun h => h K1.out) fun h => h.elim (fun h => h K2.out) fun h => h.elim (fun h => h K3.out) fun h => h.elim (fun h => h K4.out) fun h => h.elim (fun h => absurd (K5.out.symm.trans h) (by simp)) fun h => h.elim (fun h => absurd h (Int.not_lt.2 K6.out)) fun h => K7.out h))
    by_cases hl : es.length = 1
    case neg =>
      have HT := Lib.hid (NB.out.trans (termsE_n b wn es hl))
      have c8 : ((es.length : Int) != 1) = true := bne_iff_ne.2 (by omega)
      clear hl
      go_wp2_with fail
      refine (item_any _ _).mono ?_
      rintro e w1 ⟨rfl, rfl⟩
      go_wp2
      go_ret
      exact ⟨by rw [HT.out]; rfl, HB.out⟩
    have c8 : ((es.length : Int) != 1) = false := by rw [hl]; rfl
    obtain ⟨x, hx⟩ := List.length_eq_one_iff.1 hl
    obtain ⟨ob, oo, hea, f0, f1, f2, f3, f4⟩ := (HC.out.kept HB.out).one hx
    simp only at hea f0 f1 f2 f3 f4
    subst hea
    have HE := Lib.hid hx
    have HL := Lib.hid hl
    have i1 : (0 : Int) < (es.length : Int) := by omega
    clear hl hx
    obtain ⟨xa, xi, xc, xp, xw, xk, xs⟩ := x
    simp only at f0 f1 f2 f3 f4
    go_wp2_with fail
    refine (item_any _ _).mono ?_
    rintro e w1 ⟨rfl, rfl⟩
    go_wp2_with fail
    refine (bare_any ⟨xa, xi, xc, xp, xw, xk, xs⟩ _).mono ?_
    rintro e w1 ⟨rfl, hb⟩
    have r1 : w1.heap[w.heap.size]? = some (.cells #[.int .i64 n, .int .i64 k, .int .i64 b, .int .i64 d, .int .i64 t, .int .i64 wn, .int .u64 p, .int .u64 r, .int .u64 s, .int .i64 o, .slice (some ⟨ob, oo, none⟩) es.length ec] 25) := row_kept (alloc_old (alloc_at rfl)) hb
    have r2 : w1.heap[w.heap.size + 1]? = some (.cells #[.int .i64 xa, .int .i64 xi, .int .u64 xc, .int .u64 xp, .slice xw xs.length xk] 44) := row_kept (alloc_at (by simp)) hb
    have HB3 := Lib.hid (((HB.out.alloc (by simp) (.cells #[.int .i64 xa, .int .i64 xi, .int .u64 xc, .int .u64 xp, .slice xw xs.length xk] 44))).trans (hb.mono (by simp; omega)))
    have z2 : w1.cell? ⟨w.heap.size, 2, none⟩ = some (.int .i64 b) := by rw [cell_of_row _ _ _ _ _ _ r1]; rfl
    have z5 : w1.cell? ⟨w.heap.size, 5, none⟩ = some (.int .i64 wn) := by rw [cell_of_row _ _ _ _ _ _ r1]; rfl
    have y0 : w1.cell? ⟨w.heap.size + 1, 0, none⟩ = some (.int .i64 xa) := by rw [cell_of_row _ _ _ _ _ _ r2]; rfl
    have y1 : w1.cell? ⟨w.heap.size + 1, 1, none⟩ = some (.int .i64 xi) := by rw [cell_of_row _ _ _ _ _ _ r2]; rfl
    have y2 : w1.cell? ⟨w.heap.size + 1, 2, none⟩ = some (.int .u64 xc) := by rw [cell_of_row _ _ _ _ _ _ r2]; rfl
    clear hb r1 r2 f0 f1 f2 f3 f4
    by_cases t2 : bareP ⟨xa, xi, xc, xp, xw, xk, xs⟩ = true
    case neg =>
      have HT := Lib.hid (NB.out.trans ((congrArg _ HE.out).trans (termsE_y b wn ⟨xa, xi, xc, xp, xw, xk, xs⟩ (Or.inl (by simpa using t2)))))
      have d0 : bareP ⟨xa, xi, xc, xp, xw, xk, xs⟩ = false := by simpa using t2
      clear t2
      go_wp2
      go_ret
      exact ⟨by rw [HT.out]; rfl, HB3.out⟩
    have d0 : bareP ⟨xa, xi, xc, xp, xw, xk, xs⟩ = true := t2
    have J0 := Lib.hid t2
    clear t2
    by_cases t2 : xa = b
    case neg =>
      have HT := Lib.hid (NB.out.trans ((congrArg _ HE.out).trans (termsE_y b wn ⟨xa, xi, xc, xp, xw, xk, xs⟩ (Or.inr (Or.inl t2)))))
      have d1 : (xa != b) = true := by simpa using t2
      clear t2
      go_wp2
      go_ret
      exact ⟨by rw [HT.out]; rfl, HB3.out⟩
    have d1 : (xa != b) = false := by simpa using t2
    have J1 := Lib.hid t2
    clear t2
    by_cases t2 : itemP xi = true
    case neg =>
      have HT := Lib.hid (NB.out.trans ((congrArg _ HE.out).trans (termsE_y b wn ⟨xa, xi, xc, xp, xw, xk, xs⟩ (Or.inr (Or.inr (Or.inl (by simpa using t2)))))))
      have d2 : itemP xi = false := by simpa using t2
      clear t2
      go_wp2_with fail
      refine (item_any _ _).mono ?_
      rintro e w1 ⟨rfl, rfl⟩
      go_wp2
      go_ret
      exact ⟨by rw [HT.out]; rfl, HB3.out⟩
    have d2 : itemP xi = true := t2
    have J2 := Lib.hid t2
    clear t2
    by_cases t2 : xc ≤ maxS
    case neg =>
      have HT := Lib.hid (NB.out.trans ((congrArg _ HE.out).trans (termsE_y b wn ⟨xa, xi, xc, xp, xw, xk, xs⟩ (Or.inr (Or.inr (Or.inr (Or.inl (show xc > maxS by omega))))))))
      have d3 : decide (xc > 4611686018427387904) = true := by simpa [maxS] using t2
      clear t2
      go_wp2_with fail
      refine (item_any _ _).mono ?_
      rintro e w1 ⟨rfl, rfl⟩
      go_wp2
      go_ret
      exact ⟨by rw [HT.out]; rfl, HB3.out⟩
    have d3 : decide (xc > 4611686018427387904) = false := by simpa [maxS] using t2
    have J3 := Lib.hid t2
    clear t2
    by_cases t3 : xi = 0
    case pos =>
      have d4 : (xi == 0) = true := by simpa using t3
      have d4' : (xi != 0) = false := by simpa using t3
      by_cases t2 : xc ≠ 0
      case neg =>
        have t3' := Lib.hid t3
        clear t3
        have HT := Lib.hid (NB.out.trans ((congrArg _ HE.out).trans (termsE_y b wn ⟨xa, xi, xc, xp, xw, xk, xs⟩ (Or.inr (Or.inr (Or.inr (Or.inr (Or.inl ⟨t3'.out, Classical.not_not.1 t2⟩))))))))
        have d5 : (xc == 0) = true := by simpa using t2
        clear t2
        go_wp2_with fail
        refine (item_any _ _).mono ?_
        rintro e w1 ⟨rfl, rfl⟩
        go_wp2
        go_ret
        exact ⟨by rw [HT.out]; rfl, HB3.out⟩
      have d5 : (xc == 0) = false := by simpa using t2
      have JA := Lib.hid (show ¬ (xi = 0 ∧ xc = 0) from fun h => t2 h.2)
      have JB := Lib.hid (show ¬ (xi ≠ 0 ∧ xi = wn) from fun h => h.1 t3)
      clear t2 t3
      have HT := Lib.hid (NB.out.trans ((congrArg _ HE.out).trans (termsE_z b wn ⟨xa, xi, xc, xp, xw, xk, xs⟩ (fun h => h.elim (fun h => absurd (J0.out.symm.trans h) (by simp)) fun h => h.elim (fun h => h J1.out) fun h => h.elim (fun h => absurd (J2.out.symm.trans h) (by simp)) fun h => h.elim (fun h => absurd h (Int.not_lt.2 J3.out)) fun h => h.elim JA.out JB.out))))
      go_wp2_with fail
      refine (item_any _ _).mono ?_
      rintro e w1 ⟨rfl, rfl⟩
      go_wp2
      go_ret
      exact ⟨by rw [HT.out]; rfl, HB3.out⟩
    have d4 : (xi == 0) = false := by simpa using t3
    have d4' : (xi != 0) = true := by simpa using t3
    have JA := Lib.hid (show ¬ (xi = 0 ∧ xc = 0) from fun h => t3 h.1)
    have t3' := Lib.hid t3
    clear t3
    by_cases t2 : xi ≠ wn
    case neg =>
      have HT := Lib.hid (NB.out.trans ((congrArg _ HE.out).trans (termsE_y b wn ⟨xa, xi, xc, xp, xw, xk, xs⟩ (Or.inr (Or.inr (Or.inr (Or.inr (Or.inr ⟨t3'.out, Classical.not_not.1 t2⟩))))))))
      have d5 : (xi == wn) = true := by simpa using t2
      clear t2
      go_wp2_with fail
      refine (item_any _ _).mono ?_
      rintro e w1 ⟨rfl, rfl⟩
      go_wp2
      go_ret
      exact ⟨by rw [HT.out]; rfl, HB3.out⟩
    have d5 : (xi == wn) = false := by simpa using t2
    have JB := Lib.hid (show ¬ (xi ≠ 0 ∧ xi = wn) from fun h => t2 h.2)
    clear t2
    have HT := Lib.hid (NB.out.trans ((congrArg _ HE.out).trans (termsE_z b wn ⟨xa, xi, xc, xp, xw, xk, xs⟩ (fun h => h.elim (fun h => absurd (J0.out.symm.trans h) (by simp)) fun h => h.elim (fun h => h J1.out) fun h => h.elim (fun h => absurd (J2.out.symm.trans h) (by simp)) fun h => h.elim (fun h => absurd h (Int.not_lt.2 J3.out)) fun h => h.elim JA.out JB.out))))
    go_wp2_with fail
    refine (item_any _ _).mono ?_
    rintro e w1 ⟨rfl, rfl⟩
    go_wp2
    go_ret
    exact ⟨by rw [HT.out]; rfl, HB3.out⟩
end Go.Proofs.Ytiafhgcnjgpeaaa
