/-
  Layer 22: which entry may be one of a meet; the terms of a contract: the program's and the document's.
-/
import Derived.Test.YtpikmcapnmdmbaaRa
import Derived.Deep.RegionHeld3
namespace Go.Proofs.Ytpikmcapnmdmbaa
open Go.RowKit Go.K
set_option linter.unusedVariables false
set_option linter.unusedSimpArgs false
def entP (e : Ent) : Bool := decide (1 ≤ e.item) && (decide (e.coins = 0) && (decide (e.price = 0) && decide (e.ws.length ≤ 16)))
def oneB (by' : Int) (es : List Ent) : Bool := match es with | [e] => decide (e.acc = by') && entP e | _ => false
def headB (c : Con) : Bool := decide (c.kind = 4) && (decide (c.to' = 0) && (decide (c.want = 0) && (decide (c.price = 0) && (decide (c.reserve = 0) && (decide (c.step = 0) && decide (c.of' = 0))))))
def termsB (c : Con) : Int := if headB c && oneB c.by' c.es then 0 else 200
theorem termsB_no {c : Con} (h : headB c = false) : termsB c = 200 := by unfold termsB; rw [h]; rfl
theorem termsB_one {c : Con} (h : headB c = true) : termsB c = if oneB c.by' c.es then 0 else 200 := by unfold termsB; rw [h]; rfl
theorem oneB_len {b : Int} {es : List Ent} (h : es.length ≠ 1) : oneB b es = false := by
  rcases es with _ | ⟨e, _ | ⟨e2, l⟩⟩
  · rfl
  · exact absurd rfl h
  · rfl
theorem ConOk.one {W : World} {c : Con} {x : Ent} (h : ConOk W c) (hx : c.es = [x]) : ∃ b off, c.ea = some ⟨b, off, none⟩ ∧
    W.cell? ⟨b, off, none⟩ = some (.int .i64 x.acc) ∧ W.cell? ⟨b, off + 1, none⟩ = some (.int .i64 x.item) ∧ W.cell? ⟨b, off + 2, none⟩ = some (.int .u64 x.coins) ∧
    W.cell? ⟨b, off + 3, none⟩ = some (.int .u64 x.price) ∧ W.cell? ⟨b, off + 4, none⟩ = some (.slice x.wa x.ws.length x.wc) := by
  obtain ⟨b, off, he, f⟩ := h.ent 0 (by rw [hx]; exact Nat.zero_lt_one)
  have e : c.es[0]'(by rw [hx]; exact Nat.zero_lt_one) = x := by simp [hx]
  rw [e, Nat.zero_mul, Nat.add_zero] at f
  exact ⟨b, off, he, f⟩
theorem ent_any (e : Ent) (w : World) : Calls Try.prog 58 #[e.agg] w fun r w' => r = .returned (.bool (entP e)) ∧ Below w.heap.size w w' := by
  obtain ⟨a1, i1, c1, p1, wa1, wc1, ws1⟩ := e
  unfold Ent.agg
  have HB := Lib.hid ((Below.refl w.heap.size w).alloc (Nat.le_refl _) (.cells #[.int .i64 a1, .int .i64 i1, .int .u64 c1, .int .u64 p1, .slice wa1 ws1.length wc1] 48))
  go_enter Try.func58, Try.ntmps58
  by_cases h1 : 1 ≤ i1
  case neg =>
    have HT := Lib.hid (show entP ⟨a1, i1, c1, p1, wa1, wc1, ws1⟩ = false by simp [entP, h1])
    have t0 : decide (i1 ≥ 1) = false := decide_eq_false (by omega)
    clear h1
    go_wp2
    go_ret
    exact ⟨by rw [HT.out]; try rfl, HB.out⟩
  have t0 : decide (i1 ≥ 1) = true := decide_eq_true (by omega)
  have H1 := Lib.hid h1
  clear h1
  by_cases h1 : c1 = 0
  case neg =>
    have HT := Lib.hid (show entP ⟨a1, i1, c1, p1, wa1, wc1, ws1⟩ = false by simp [entP, h1])
    have t1 : (c1 == 0) = false := by simpa using h1
    clear h1
    go_wp2
    go_ret
    exact ⟨by rw [HT.out]; try rfl, HB.out⟩
  have t1 : (c1 == 0) = true := by simpa using h1
  have H2 := Lib.hid h1
  clear h1
  by_cases h1 : p1 = 0
  case neg =>
    have HT := Lib.hid (show entP ⟨a1, i1, c1, p1, wa1, wc1, ws1⟩ = false by simp [entP, h1])
    have t2 : (p1 == 0) = false := by simpa using h1
    clear h1
    go_wp2
    go_ret
    exact ⟨by rw [HT.out]; try rfl, HB.out⟩
  have t2 : (p1 == 0) = true := by simpa using h1
  have HT := Lib.hid (show entP ⟨a1, i1, c1, p1, wa1, wc1, ws1⟩ = decide (((ws1.length : Nat) : Int) ≤ 16) by
    have h2 := H1.out
    have h3 := H2.out
    simp only [entP, h1, h2, h3, decide_true, Bool.true_and]
    exact decide_eq_decide.2 (by omega))
  clear h1
  go_wp2
  go_ret
  exact ⟨by rw [HT.out]; try rfl, HB.out⟩
theorem rent_any (e : Ent) (w : World) : Calls Try.prog 61 #[e.agg] w fun r w' => r = .returned (.bool (entP e)) ∧ Below w.heap.size w w' := by
  obtain ⟨a1, i1, c1, p1, wa1, wc1, ws1⟩ := e
  unfold Ent.agg
  have HB := Lib.hid ((Below.refl w.heap.size w).alloc (Nat.le_refl _) (.cells #[.int .i64 a1, .int .i64 i1, .int .u64 c1, .int .u64 p1, .slice wa1 ws1.length wc1] 48))
  go_enter Try.func61, Try.ntmps61
  by_cases h1 : 1 ≤ i1
  case neg =>
    have HT := Lib.hid (show entP ⟨a1, i1, c1, p1, wa1, wc1, ws1⟩ = false by simp [entP, h1])
    have t0 : decide (i1 > 0) = false := decide_eq_false (by omega)
    clear h1
    go_wp2
    go_ret
    exact ⟨by rw [HT.out]; try rfl, HB.out⟩
  have t0 : decide (i1 > 0) = true := decide_eq_true (by omega)
  have H1 := Lib.hid h1
  clear h1
  by_cases h1 : c1 = 0
  case neg =>
    have HT := Lib.hid (show entP ⟨a1, i1, c1, p1, wa1, wc1, ws1⟩ = false by simp [entP, h1])
    have t1 : (c1 == 0) = false := by simpa using h1
    clear h1
    go_wp2
    go_ret
    exact ⟨by rw [HT.out]; try rfl, HB.out⟩
  have t1 : (c1 == 0) = true := by simpa using h1
  have H2 := Lib.hid h1
  clear h1
  by_cases h1 : p1 = 0
  case neg =>
    have HT := Lib.hid (show entP ⟨a1, i1, c1, p1, wa1, wc1, ws1⟩ = false by simp [entP, h1])
    have t2 : (p1 == 0) = false := by simpa using h1
    clear h1
    go_wp2
    go_ret
    exact ⟨by rw [HT.out]; try rfl, HB.out⟩
  have t2 : (p1 == 0) = true := by simpa using h1
  have HT := Lib.hid (show entP ⟨a1, i1, c1, p1, wa1, wc1, ws1⟩ = decide (((ws1.length : Nat) : Int) ≤ 16) by
    have h2 := H1.out
    have h3 := H2.out
    simp only [entP, h1, h2, h3, decide_true, Bool.true_and]
    exact decide_eq_decide.2 (by omega))
  clear h1
  go_wp2
  go_ret
  exact ⟨by rw [HT.out]; try rfl, HB.out⟩
set_option maxRecDepth 100000 in
set_option maxHeartbeats 2000000 in
theorem terms_any (c : Con) (w : World) (hc : ConOk w c) : Calls Try.prog 36 #[c.agg] w fun e w' => e = .returned (.int .i64 (termsB c)) ∧ Below w.heap.size w w' := by
  have HC := Lib.hid hc
  clear hc
  unfold Con.agg
  obtain ⟨n, k, b, d, t, wn, p, r, s, o, ea, ec, es⟩ := c
  go_enter Try.func36, Try.ntmps36
  have HB := Lib.hid ((Below.refl w.heap.size w).alloc (Nat.le_refl _) (.cells #[.int .i64 n, .int .i64 k, .int .i64 b, .int .i64 d, .int .i64 t, .int .i64 wn, .int .u64 p, .int .u64 r, .int .u64 s, .int .i64 o, .slice ea es.length ec] 45))
  by_cases h : k = 4
  case neg =>
    have HT := Lib.hid (termsB_no (c := ⟨n, k, b, d, t, wn, p, r, s, o, ea, ec, es⟩) (by simp [headB, h]))
    have c0 : (k != 4) = true := by simpa using h
    clear h
    go_wp2
    go_ret
    exact ⟨by rw [HT.out]; try rfl, HB.out⟩
  have c0 : (k != 4) = false := by simpa using h
  have K0 := Lib.hid h
  clear h
  by_cases h : t = 0
  case neg =>
    have HT := Lib.hid (termsB_no (c := ⟨n, k, b, d, t, wn, p, r, s, o, ea, ec, es⟩) (by simp [headB, h]))
    have c1 : (t != 0) = true := by simpa using h
    clear h
    go_wp2
    go_ret
    exact ⟨by rw [HT.out]; try rfl, HB.out⟩
  have c1 : (t != 0) = false := by simpa using h
  have K1 := Lib.hid h
  clear h
  by_cases h : wn = 0
  case neg =>
    have HT := Lib.hid (termsB_no (c := ⟨n, k, b, d, t, wn, p, r, s, o, ea, ec, es⟩) (by simp [headB, h]))
    have c2 : (wn != 0) = true := by simpa using h
    clear h
    go_wp2
    go_ret
    exact ⟨by rw [HT.out]; try rfl, HB.out⟩
  have c2 : (wn != 0) = false := by simpa using h
  have K2 := Lib.hid h
  clear h
  by_cases h : p = 0
  case neg =>
    have HT := Lib.hid (termsB_no (c := ⟨n, k, b, d, t, wn, p, r, s, o, ea, ec, es⟩) (by simp [headB, h]))
    have c3 : (p != 0) = true := by simpa using h
    clear h
    go_wp2
    go_ret
    exact ⟨by rw [HT.out]; try rfl, HB.out⟩
  have c3 : (p != 0) = false := by simpa using h
  have K3 := Lib.hid h
  clear h
  by_cases h : r = 0
  case neg =>
    have HT := Lib.hid (termsB_no (c := ⟨n, k, b, d, t, wn, p, r, s, o, ea, ec, es⟩) (by simp [headB, h]))
    have c4 : (r != 0) = true := by simpa using h
    clear h
    go_wp2
    go_ret
    exact ⟨by rw [HT.out]; try rfl, HB.out⟩
  have c4 : (r != 0) = false := by simpa using h
  have K4 := Lib.hid h
  clear h
  by_cases h : s = 0
  case neg =>
    have HT := Lib.hid (termsB_no (c := ⟨n, k, b, d, t, wn, p, r, s, o, ea, ec, es⟩) (by simp [headB, h]))
    have c5 : (s != 0) = true := by simpa using h
    clear h
    go_wp2
    go_ret
    exact ⟨by rw [HT.out]; try rfl, HB.out⟩
  have c5 : (s != 0) = false := by simpa using h
  have K5 := Lib.hid h
  clear h
  by_cases h : o = 0
  case neg =>
    have HT := Lib.hid (termsB_no (c := ⟨n, k, b, d, t, wn, p, r, s, o, ea, ec, es⟩) (by simp [headB, h]))
    have c6 : (o != 0) = true := by simpa using h
    clear h
    go_wp2
    go_ret
    exact ⟨by rw [HT.out]; try rfl, HB.out⟩
  have c6 : (o != 0) = false := by simpa using h
  have K6 := Lib.hid h
  clear h
  have HH := Lib.hid (termsB_one (c := ⟨n, k, b, d, t, wn, p, r, s, o, ea, ec, es⟩) (by
    have h0 := K0.out; have h1 := K1.out; have h2 := K2.out; have h3 := K3.out; have h4 := K4.out; have h5 := K5.out; have h6 := K6.out
    subst h0 h1 h2 h3 h4 h5 h6
    rfl))
  by_cases hl : es.length = 1
  case neg =>
    have HT := Lib.hid (HH.out.trans (by rw [oneB_len hl]; try rfl))
    have c8 : ((es.length : Int) != 1) = true := bne_iff_ne.2 (by omega)
    clear hl
    go_wp2
    go_quiet (fail)
    go_wp2
    go_ret
    exact ⟨by rw [HT.out]; try rfl, HB.out.trans ((Qt.drewN _ _).below _)⟩
  have c8 : ((es.length : Int) != 1) = false := by rw [hl]; rfl
  obtain ⟨x, hx⟩ := List.length_eq_one_iff.1 hl
  obtain ⟨ob, oo, hea, f0, f1, f2, f3, f4⟩ := (HC.out.kept HB.out).one hx
  simp only at hea f0 f1 f2 f3 f4
  subst hea
  have HE := Lib.hid hx
  have HL := Lib.hid hl
  have i1 : (0 : Int) < (es.length : Int) := by omega
  clear hl hx
  obtain ⟨xa, xi, xc, xp, xw, xk, xs⟩ := x
  simp only at f0 f1 f2 f3 f4
  by_cases h : xa = b
  case neg =>
    have HT := Lib.hid (HH.out.trans (by rw [show oneB b es = false by rw [HE.out]; simp [oneB, h]]; try rfl))
    have d0 : (xa != b) = true := by simpa using h
    clear h
    go_wp2
    go_quiet (fail)
    go_wp2
    go_ret
    exact ⟨by rw [HT.out]; try rfl, HB.out.trans ((Qt.drewN _ _).below _)⟩
  have d0 : (xa != b) = false := by simpa using h
  have HO := Lib.hid (show oneB b es = entP ⟨xa, xi, xc, xp, xw, xk, xs⟩ by rw [HE.out]; simp [oneB, h])
  clear h
  have r0 : (w.alloc (.cells #[.int .i64 n, .int .i64 k, .int .i64 b, .int .i64 d, .int .i64 t, .int .i64 wn, .int .u64 p, .int .u64 r, .int .u64 s, .int .i64 o, .slice (some ⟨ob, oo, none⟩) es.length ec] 45)).heap[w.heap.size]? = some (.cells #[.int .i64 n, .int .i64 k, .int .i64 b, .int .i64 d, .int .i64 t, .int .i64 wn, .int .u64 p, .int .u64 r, .int .u64 s, .int .i64 o, .slice (some ⟨ob, oo, none⟩) es.length ec] 45) := alloc_at rfl
  have z2 : (w.alloc (.cells #[.int .i64 n, .int .i64 k, .int .i64 b, .int .i64 d, .int .i64 t, .int .i64 wn, .int .u64 p, .int .u64 r, .int .u64 s, .int .i64 o, .slice (some ⟨ob, oo, none⟩) es.length ec] 45)).cell? ⟨w.heap.size, 2, none⟩ = some (.int .i64 b) := by rw [cell_of_row _ _ _ _ _ _ r0]; rfl
  have z10 : (w.alloc (.cells #[.int .i64 n, .int .i64 k, .int .i64 b, .int .i64 d, .int .i64 t, .int .i64 wn, .int .u64 p, .int .u64 r, .int .u64 s, .int .i64 o, .slice (some ⟨ob, oo, none⟩) es.length ec] 45)).cell? ⟨w.heap.size, 10, none⟩ = some (.slice (some ⟨ob, oo, none⟩) es.length ec) := by rw [cell_of_row _ _ _ _ _ _ r0]; rfl
  rw [HL.out] at z2 z10 f0 f1 f2 f3 f4 HB ⊢
  have HK := Lib.hid (fun (V : World) => ent_any ⟨xa, xi, xc, xp, xw, xk, xs⟩ V)
  unfold Ent.agg at HK
  simp only at HK
  clear r0
  go_wp2
  go_region_held3 (fun V => V.cell? ⟨w.heap.size, 2, none⟩ = some (.int .i64 b) ∧ V.cell? ⟨w.heap.size, 10, none⟩ = some (.slice (some ⟨ob, oo, none⟩) 1 ec) ∧ V.cell? ⟨ob, oo, none⟩ = some (.int .i64 xa) ∧ V.cell? ⟨ob, oo + 1, none⟩ = some (.int .i64 xi) ∧ V.cell? ⟨ob, oo + 2, none⟩ = some (.int .u64 xc) ∧ V.cell? ⟨ob, oo + 3, none⟩ = some (.int .u64 xp) ∧ V.cell? ⟨ob, oo + 4, none⟩ = some (.slice xw xs.length xk)) (go_keep)
    ((go_at_call 58; (with_reducible refine (HK.out _).mono ?_); rintro r1 w1 ⟨rfl, hbg⟩
      have hb := ((Qt.drewN _ 1).below _).trans hbg
      have q2 := below_cell hb z2; have q10 := below_cell hb z10
      have q0 := below_cell hb f0; have q1 := below_cell hb f1; have q3 := below_cell hb f2; have q4 := below_cell hb f3; have q5 := below_cell hb f4))
  have HB3 := Lib.hid (show Below w.heap.size w w1 from HB.out.trans (hb.mono (by simp)))
  clear hb
  cases he : entP ⟨xa, xi, xc, xp, xw, xk, xs⟩ with
  | true =>
    have HT := Lib.hid (HH.out.trans (by rw [HO.out, he]; try rfl))
    clear he
    go_wp2
    go_ret
    exact ⟨by rw [HT.out]; try rfl, HB3.out⟩
  | false =>
    have HT := Lib.hid (HH.out.trans (by rw [HO.out, he]; try rfl))
    clear he
    go_wp2
    go_ret
    exact ⟨by rw [HT.out]; try rfl, HB3.out⟩
set_option maxRecDepth 100000 in
set_option maxHeartbeats 2000000 in
theorem rterms_any (c : Con) (w : World) (hc : ConOk w c) : Calls Try.prog 38 #[c.agg] w fun e w' => e = .returned (.int .i64 (termsB c)) ∧ Below w.heap.size w w' := by
  have HC := Lib.hid hc
  clear hc
  unfold Con.agg
  obtain ⟨n, k, b, d, t, wn, p, r, s, o, ea, ec, es⟩ := c
  go_enter Try.func38, Try.ntmps38
  have HB := Lib.hid ((Below.refl w.heap.size w).alloc (Nat.le_refl _) (.cells #[.int .i64 n, .int .i64 k, .int .i64 b, .int .i64 d, .int .i64 t, .int .i64 wn, .int .u64 p, .int .u64 r, .int .u64 s, .int .i64 o, .slice ea es.length ec] 45))
  by_cases h : k = 4
  case neg =>
    have HT := Lib.hid (termsB_no (c := ⟨n, k, b, d, t, wn, p, r, s, o, ea, ec, es⟩) (by simp [headB, h]))
    have c0 : (k != 4) = true := by simpa using h
    clear h
    go_wp2
    go_ret
    exact ⟨by rw [HT.out]; try rfl, HB.out⟩
  have c0 : (k != 4) = false := by simpa using h
  have K0 := Lib.hid h
  clear h
  by_cases h : t = 0
  case neg =>
    have HT := Lib.hid (termsB_no (c := ⟨n, k, b, d, t, wn, p, r, s, o, ea, ec, es⟩) (by simp [headB, h]))
    have c1 : (t != 0) = true := by simpa using h
    clear h
    go_wp2
    go_ret
    exact ⟨by rw [HT.out]; try rfl, HB.out⟩
  have c1 : (t != 0) = false := by simpa using h
  have K1 := Lib.hid h
  clear h
  by_cases h : wn = 0
  case neg =>
    have HT := Lib.hid (termsB_no (c := ⟨n, k, b, d, t, wn, p, r, s, o, ea, ec, es⟩) (by simp [headB, h]))
    have c2 : (wn != 0) = true := by simpa using h
    clear h
    go_wp2
    go_ret
    exact ⟨by rw [HT.out]; try rfl, HB.out⟩
  have c2 : (wn != 0) = false := by simpa using h
  have K2 := Lib.hid h
  clear h
  by_cases h : p = 0
  case neg =>
    have HT := Lib.hid (termsB_no (c := ⟨n, k, b, d, t, wn, p, r, s, o, ea, ec, es⟩) (by simp [headB, h]))
    have c3 : (p != 0) = true := by simpa using h
    clear h
    go_wp2
    go_ret
    exact ⟨by rw [HT.out]; try rfl, HB.out⟩
  have c3 : (p != 0) = false := by simpa using h
  have K3 := Lib.hid h
  clear h
  by_cases h : r = 0
  case neg =>
    have HT := Lib.hid (termsB_no (c := ⟨n, k, b, d, t, wn, p, r, s, o, ea, ec, es⟩) (by simp [headB, h]))
    have c4 : (r != 0) = true := by simpa using h
    clear h
    go_wp2
    go_ret
    exact ⟨by rw [HT.out]; try rfl, HB.out⟩
  have c4 : (r != 0) = false := by simpa using h
  have K4 := Lib.hid h
  clear h
  by_cases h : s = 0
  case neg =>
    have HT := Lib.hid (termsB_no (c := ⟨n, k, b, d, t, wn, p, r, s, o, ea, ec, es⟩) (by simp [headB, h]))
    have c5 : (s != 0) = true := by simpa using h
    clear h
    go_wp2
    go_ret
    exact ⟨by rw [HT.out]; try rfl, HB.out⟩
  have c5 : (s != 0) = false := by simpa using h
  have K5 := Lib.hid h
  clear h
  by_cases h : o = 0
  case neg =>
    have HT := Lib.hid (termsB_no (c := ⟨n, k, b, d, t, wn, p, r, s, o, ea, ec, es⟩) (by simp [headB, h]))
    have c6 : (o != 0) = true := by simpa using h
    clear h
    go_wp2
    go_ret
    exact ⟨by rw [HT.out]; try rfl, HB.out⟩
  have c6 : (o != 0) = false := by simpa using h
  have K6 := Lib.hid h
  clear h
  have HH := Lib.hid (termsB_one (c := ⟨n, k, b, d, t, wn, p, r, s, o, ea, ec, es⟩) (by
    have h0 := K0.out; have h1 := K1.out; have h2 := K2.out; have h3 := K3.out; have h4 := K4.out; have h5 := K5.out; have h6 := K6.out
    subst h0 h1 h2 h3 h4 h5 h6
    rfl))
  by_cases hl : es.length = 1
  case neg =>
    have HT := Lib.hid (HH.out.trans (by rw [oneB_len hl]; try rfl))
    have c8 : ((es.length : Int) != 1) = true := bne_iff_ne.2 (by omega)
    clear hl
    go_wp2
    go_quiet (fail)
    go_wp2
    go_ret
    exact ⟨by rw [HT.out]; try rfl, HB.out.trans ((Qt.drewN _ _).below _)⟩
  have c8 : ((es.length : Int) != 1) = false := by rw [hl]; rfl
  obtain ⟨x, hx⟩ := List.length_eq_one_iff.1 hl
  obtain ⟨ob, oo, hea, f0, f1, f2, f3, f4⟩ := (HC.out.kept HB.out).one hx
  simp only at hea f0 f1 f2 f3 f4
  subst hea
  have HE := Lib.hid hx
  have HL := Lib.hid hl
  have i1 : (0 : Int) < (es.length : Int) := by omega
  clear hl hx
  obtain ⟨xa, xi, xc, xp, xw, xk, xs⟩ := x
  simp only at f0 f1 f2 f3 f4
  by_cases h : xa = b
  case neg =>
    have HT := Lib.hid (HH.out.trans (by rw [show oneB b es = false by rw [HE.out]; simp [oneB, h]]; try rfl))
    have d0 : (xa != b) = true := by simpa using h
    clear h
    go_wp2
    go_quiet (fail)
    go_wp2
    go_ret
    exact ⟨by rw [HT.out]; try rfl, HB.out.trans ((Qt.drewN _ _).below _)⟩
  have d0 : (xa != b) = false := by simpa using h
  have HO := Lib.hid (show oneB b es = entP ⟨xa, xi, xc, xp, xw, xk, xs⟩ by rw [HE.out]; simp [oneB, h])
  clear h
  go_wp2
  go_quiet (fail)
  go_wp2_with fail
  refine (rent_any ⟨xa, xi, xc, xp, xw, xk, xs⟩ _).mono ?_
  rintro r1 w1 ⟨rfl, hb⟩
  have HB3 := Lib.hid (show Below w.heap.size w w1 from (HB.out.trans ((Qt.drewN _ _).below _)).trans (hb.mono (by simp)))
  clear hb
  cases he : entP ⟨xa, xi, xc, xp, xw, xk, xs⟩ with
  | true =>
    have HT := Lib.hid (HH.out.trans (by rw [HO.out, he]; try rfl))
    clear he
    go_wp2
    go_ret
    exact ⟨by rw [HT.out]; try rfl, HB3.out⟩
  | false =>
    have HT := Lib.hid (HH.out.trans (by rw [HO.out, he]; try rfl))
    clear he
    go_wp2
    go_ret
    exact ⟨by rw [HT.out]; try rfl, HB3.out⟩
end Go.Proofs.Ytpikmcapnmdmbaa
