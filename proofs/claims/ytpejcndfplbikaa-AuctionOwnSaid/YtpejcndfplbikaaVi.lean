/-
  Layer 21: the terms of an auction: the program's and the document's.
-/
import Derived.Test.YtpejcndfplbikaaVn
namespace Go.Proofs.Ytpejcndfplbikaa
open Go.RowKit Go.K
set_option linter.unusedVariables false
set_option linter.unusedSimpArgs false
def oneV (b : Int) (l : List DE) : Bool := match l with | [x] => decide (x.1 = b) && (decide (1 ≤ x.2.1) && (decide (x.2.2.1 = 0) && (decide (x.2.2.2.1 = 0) && decide (x.2.2.2.2.length = 0)))) | _ => false
def termsV (k b t wn p r s o : Int) (l : List DE) : Int := if (k = 2 ∨ k = 3) ∧ t = 0 ∧ wn = 0 ∧ p = 0 ∧ o = 0 ∧ pP r = true ∧ l.length = 1 ∧ (if k = 2 then pP s = true else s = 0) ∧ oneV b l = true then 0 else 200
theorem ConOk.one {W : World} {c : Con} {x : Ent} (h : ConOk W c) (hx : c.es = [x]) : ∃ b off, c.ea = some ⟨b, off, none⟩ ∧
    W.cell? ⟨b, off, none⟩ = some (.int .i64 x.acc) ∧ W.cell? ⟨b, off + 1, none⟩ = some (.int .i64 x.item) ∧ W.cell? ⟨b, off + 2, none⟩ = some (.int .u64 x.coins) ∧
    W.cell? ⟨b, off + 3, none⟩ = some (.int .u64 x.price) ∧ W.cell? ⟨b, off + 4, none⟩ = some (.slice x.wa x.ws.length x.wc) := by
  obtain ⟨b, off, he, f⟩ := h.ent 0 (by rw [hx]; exact Nat.zero_lt_one)
  have e : c.es[0]'(by rw [hx]; exact Nat.zero_lt_one) = x := by simp [hx]
  rw [e, Nat.zero_mul, Nat.add_zero] at f
  exact ⟨b, off, he, f⟩
theorem pP_of {r : Int} (h1 : ¬ r < 1) (h2 : ¬ r > 4611686018427387904) : pP r = true := by unfold pP; rw [decide_eq_true (by omega), decide_eq_true (by omega)]; rfl
theorem pP_low {r : Int} (h : r < 1) : ¬ pP r = true := by unfold pP; rw [decide_eq_false (by omega)]; simp
theorem pP_high {r : Int} (h : r > 4611686018427387904) : ¬ pP r = true := by unfold pP; rw [decide_eq_false (show ¬ r ≤ 4611686018427387904 by omega)]; simp
set_option maxRecDepth 100000 in
set_option maxHeartbeats 4000000 in
theorem terms_len (n k b d t wn p r s o : Int) (ea : Option Addr) (ec : Nat) (es : List Ent) (w : World) (hc : ConOk w ⟨n, k, b, d, t, wn, p, r, s, o, ea, ec, es⟩) (hl : es.length ≠ 1) (ds : List DE) (hds : Hid (List.map Ent.d es = ds)) :
    Calls Try.prog 21 #[.agg #[.int .i64 n, .int .i64 k, .int .i64 b, .int .i64 d, .int .i64 t, .int .i64 wn, .int .u64 p, .int .u64 r, .int .u64 s, .int .i64 o, .slice ea es.length ec]] w fun e w' => e = .returned (.int .i64 (termsV k b t wn p r s o ds)) ∧ Below w.heap.size w w' := by
  have HB := Lib.hid ((Below.refl w.heap.size w).alloc (Nat.le_refl _) (.cells #[.int .i64 n, .int .i64 k, .int .i64 b, .int .i64 d, .int .i64 t, .int .i64 wn, .int .u64 p, .int .u64 r, .int .u64 s, .int .i64 o, .slice ea es.length ec] 25))
  have HK := Lib.hid (fun V => open_any ⟨n, k, b, d, t, wn, p, r, s, o, ea, ec, es⟩ V)
  unfold Con.agg at HK
  simp only [List.length_cons, List.length_nil, Nat.zero_add] at HK
  have cl : ((es.length : Int) != 1) = true := by simp; omega
  have HLN := Lib.hid (show (List.map Ent.d es).length ≠ 1 by rw [List.length_map]; exact hl)
  clear hl
  clear hc
  go_enter Try.func21, Try.ntmps21
  go_wp2_with fail
  refine (HK.out _).mono ?_
  rintro r0 w1 ⟨g, gc, rfl, hg, hgc, hh, hb⟩
  have HB1 := Lib.hid (HB.out.trans (hb.mono (by simp)))
  have z1 := hh.kind
  have z2 := hh.by'
  have z4 := hh.to'
  have z5 := hh.want
  have z6 := hh.price
  have z7 := hh.reserve
  have z8 := hh.step
  have z9 := hh.of'
  have z10 := hh.es
  have z11 := hh.wins
  have zA2 : ∀ X, (w1.alloc X).cell? ⟨g, 2, none⟩ = some (.int .i64 b) := fun X => (show Hall _ _ _ _ from hh.kept ((Below.refl _ _).alloc (Nat.le_refl _) X)).by'
  simp only [List.length_cons, List.length_nil, Nat.zero_add] at z1 z2 z4 z5 z6 z7 z8 z9 z10 z11
  clear hb hh HK
  clear hg hgc
  by_cases hk : k = 2 ∨ k = 3
  case neg =>
    have HT := Lib.hid (show termsV k b t wn p r s o ds = 200 by rw [← hds.out]; unfold termsV; rw [if_neg (by intro hh; exact hk hh.1)])
    have hwn : winsV k gc = .nilFunc := by unfold winsV; rw [if_neg (by omega), if_neg (by omega)]
    rw [hwn] at z11
    have q0 := fun W => eql73n W
    clear hwn
    clear hk
    go_wp2_with (go_at_call 48; (with_reducible refine (price_any _ _).mono ?_); rintro r2 w2 ⟨rfl, rfl⟩)
    go_ret
    exact ⟨by rw [HT.out]; try rfl, HB1.out⟩
  rcases hk with rfl | rfl
  · have hwn : winsV 2 gc = .func (.func 51) #[] #[.pointer (some ⟨gc, 0, none⟩)] := rfl
    rw [hwn] at z11
    clear hwn
    have q0 := fun f a b W => eql73 f a b W
    by_cases h : t = 0
    case neg =>
      have HT := Lib.hid (show termsV 2 b t wn p r s o ds = 200 by rw [← hds.out]; unfold termsV; rw [if_neg (by intro hh; exact h hh.2.1)])
      have c1 : (t != 0) = true := by simpa using h
      clear h
      go_wp2_with (go_at_call 48; (with_reducible refine (price_any _ _).mono ?_); rintro r2 w2 ⟨rfl, rfl⟩)
      go_ret
      exact ⟨by rw [HT.out]; try rfl, HB1.out⟩
    have c1 : (t != 0) = false := by simpa using h
    have K1 := Lib.hid h
    clear h
    by_cases h : wn = 0
    case neg =>
      have HT := Lib.hid (show termsV 2 b t wn p r s o ds = 200 by rw [← hds.out]; unfold termsV; rw [if_neg (by intro hh; exact h hh.2.2.1)])
      have c2 : (wn != 0) = true := by simpa using h
      clear h
      go_wp2_with (go_at_call 48; (with_reducible refine (price_any _ _).mono ?_); rintro r2 w2 ⟨rfl, rfl⟩)
      go_ret
      exact ⟨by rw [HT.out]; try rfl, HB1.out⟩
    have c2 : (wn != 0) = false := by simpa using h
    have K2 := Lib.hid h
    clear h
    by_cases h : p = 0
    case neg =>
      have HT := Lib.hid (show termsV 2 b t wn p r s o ds = 200 by rw [← hds.out]; unfold termsV; rw [if_neg (by intro hh; exact h hh.2.2.2.1)])
      have c3 : (p != 0) = true := by simpa using h
      clear h
      go_wp2_with (go_at_call 48; (with_reducible refine (price_any _ _).mono ?_); rintro r2 w2 ⟨rfl, rfl⟩)
      go_ret
      exact ⟨by rw [HT.out]; try rfl, HB1.out⟩
    have c3 : (p != 0) = false := by simpa using h
    have K3 := Lib.hid h
    clear h
    by_cases h : o = 0
    case neg =>
      have HT := Lib.hid (show termsV 2 b t wn p r s o ds = 200 by rw [← hds.out]; unfold termsV; rw [if_neg (by intro hh; exact h hh.2.2.2.2.1)])
      have c4 : (o != 0) = true := by simpa using h
      clear h
      go_wp2_with (go_at_call 48; (with_reducible refine (price_any _ _).mono ?_); rintro r2 w2 ⟨rfl, rfl⟩)
      go_ret
      exact ⟨by rw [HT.out]; try rfl, HB1.out⟩
    have c4 : (o != 0) = false := by simpa using h
    have K4 := Lib.hid h
    clear h
    by_cases h : pP r = true
    case neg =>
      have HT := Lib.hid (show termsV 2 b t wn p r s o ds = 200 by rw [← hds.out]; unfold termsV; rw [if_neg (by intro hh; exact h hh.2.2.2.2.2.1)])
      have c5 : pP r = false := by simpa using h
      clear h
      go_wp2_with (go_at_call 48; (with_reducible refine (price_any _ _).mono ?_); rintro r2 w2 ⟨rfl, rfl⟩)
      go_ret
      exact ⟨by rw [HT.out]; try rfl, HB1.out⟩
    have c5 : pP r = true := h
    have K5 := Lib.hid h
    clear h
    have HT := Lib.hid (show termsV 2 b t wn p r s o ds = 200 by rw [← hds.out]; unfold termsV; rw [if_neg (by intro hh; exact HLN.out hh.2.2.2.2.2.2.1)])
    go_wp2_with (go_at_call 48; (with_reducible refine (price_any _ _).mono ?_); rintro r2 w2 ⟨rfl, rfl⟩)
    go_ret
    exact ⟨by rw [HT.out]; try rfl, HB1.out⟩
  · have hwn : winsV 3 gc = .func (.func 52) #[] #[.pointer (some ⟨gc, 0, none⟩)] := rfl
    rw [hwn] at z11
    clear hwn
    have q0 := fun f a b W => eql73 f a b W
    by_cases h : t = 0
    case neg =>
      have HT := Lib.hid (show termsV 3 b t wn p r s o ds = 200 by rw [← hds.out]; unfold termsV; rw [if_neg (by intro hh; exact h hh.2.1)])
      have c1 : (t != 0) = true := by simpa using h
      clear h
      go_wp2_with (go_at_call 48; (with_reducible refine (price_any _ _).mono ?_); rintro r2 w2 ⟨rfl, rfl⟩)
      go_ret
      exact ⟨by rw [HT.out]; try rfl, HB1.out⟩
    have c1 : (t != 0) = false := by simpa using h
    have K1 := Lib.hid h
    clear h
    by_cases h : wn = 0
    case neg =>
      have HT := Lib.hid (show termsV 3 b t wn p r s o ds = 200 by rw [← hds.out]; unfold termsV; rw [if_neg (by intro hh; exact h hh.2.2.1)])
      have c2 : (wn != 0) = true := by simpa using h
      clear h
      go_wp2_with (go_at_call 48; (with_reducible refine (price_any _ _).mono ?_); rintro r2 w2 ⟨rfl, rfl⟩)
      go_ret
      exact ⟨by rw [HT.out]; try rfl, HB1.out⟩
    have c2 : (wn != 0) = false := by simpa using h
    have K2 := Lib.hid h
    clear h
    by_cases h : p = 0
    case neg =>
      have HT := Lib.hid (show termsV 3 b t wn p r s o ds = 200 by rw [← hds.out]; unfold termsV; rw [if_neg (by intro hh; exact h hh.2.2.2.1)])
      have c3 : (p != 0) = true := by simpa using h
      clear h
      go_wp2_with (go_at_call 48; (with_reducible refine (price_any _ _).mono ?_); rintro r2 w2 ⟨rfl, rfl⟩)
      go_ret
      exact ⟨by rw [HT.out]; try rfl, HB1.out⟩
    have c3 : (p != 0) = false := by simpa using h
    have K3 := Lib.hid h
    clear h
    by_cases h : o = 0
    case neg =>
      have HT := Lib.hid (show termsV 3 b t wn p r s o ds = 200 by rw [← hds.out]; unfold termsV; rw [if_neg (by intro hh; exact h hh.2.2.2.2.1)])
      have c4 : (o != 0) = true := by simpa using h
      clear h
      go_wp2_with (go_at_call 48; (with_reducible refine (price_any _ _).mono ?_); rintro r2 w2 ⟨rfl, rfl⟩)
      go_ret
      exact ⟨by rw [HT.out]; try rfl, HB1.out⟩
    have c4 : (o != 0) = false := by simpa using h
    have K4 := Lib.hid h
    clear h
    by_cases h : pP r = true
    case neg =>
      have HT := Lib.hid (show termsV 3 b t wn p r s o ds = 200 by rw [← hds.out]; unfold termsV; rw [if_neg (by intro hh; exact h hh.2.2.2.2.2.1)])
      have c5 : pP r = false := by simpa using h
      clear h
      go_wp2_with (go_at_call 48; (with_reducible refine (price_any _ _).mono ?_); rintro r2 w2 ⟨rfl, rfl⟩)
      go_ret
      exact ⟨by rw [HT.out]; try rfl, HB1.out⟩
    have c5 : pP r = true := h
    have K5 := Lib.hid h
    clear h
    have HT := Lib.hid (show termsV 3 b t wn p r s o ds = 200 by rw [← hds.out]; unfold termsV; rw [if_neg (by intro hh; exact HLN.out hh.2.2.2.2.2.2.1)])
    go_wp2_with (go_at_call 48; (with_reducible refine (price_any _ _).mono ?_); rintro r2 w2 ⟨rfl, rfl⟩)
    go_ret
    exact ⟨by rw [HT.out]; try rfl, HB1.out⟩
set_option maxRecDepth 100000 in
set_option maxHeartbeats 4000000 in
theorem terms_one (n k b d t wn p r s o : Int) (ea : Option Addr) (ec : Nat) (xa xi xc xp : Int) (xw : Option Addr) (xk : Nat) (xs : List Int) (w : World) (hc : ConOk w ⟨n, k, b, d, t, wn, p, r, s, o, ea, ec, [⟨xa, xi, xc, xp, xw, xk, xs⟩]⟩) (ds : List DE) (hds : Hid (List.map Ent.d [⟨xa, xi, xc, xp, xw, xk, xs⟩] = ds)) :
    Calls Try.prog 21 #[.agg #[.int .i64 n, .int .i64 k, .int .i64 b, .int .i64 d, .int .i64 t, .int .i64 wn, .int .u64 p, .int .u64 r, .int .u64 s, .int .i64 o, .slice ea 1 ec]] w fun e w' => e = .returned (.int .i64 (termsV k b t wn p r s o ds)) ∧ Below w.heap.size w w' := by
  have HB := Lib.hid ((Below.refl w.heap.size w).alloc (Nat.le_refl _) (.cells #[.int .i64 n, .int .i64 k, .int .i64 b, .int .i64 d, .int .i64 t, .int .i64 wn, .int .u64 p, .int .u64 r, .int .u64 s, .int .i64 o, .slice ea 1 ec] 25))
  have HK := Lib.hid (fun V => open_any ⟨n, k, b, d, t, wn, p, r, s, o, ea, ec, [⟨xa, xi, xc, xp, xw, xk, xs⟩]⟩ V)
  unfold Con.agg at HK
  simp only [List.length_cons, List.length_nil, Nat.zero_add] at HK
  obtain ⟨ob, oo, hea, _⟩ := hc.one rfl
  simp only at hea
  subst hea
  have HF := Lib.hid (show ∀ V, Below w.heap.size w V → V.cell? ⟨ob, oo, none⟩ = some (.int .i64 xa) ∧ V.cell? ⟨ob, oo + 1, none⟩ = some (.int .i64 xi) ∧ V.cell? ⟨ob, oo + 2, none⟩ = some (.int .u64 xc) ∧ V.cell? ⟨ob, oo + 3, none⟩ = some (.int .u64 xp) ∧ V.cell? ⟨ob, oo + 4, none⟩ = some (.slice xw xs.length xk) from fun V h => by
    obtain ⟨_, _, he, f⟩ := (hc.kept h).one rfl
    simp only at he
    cases he
    exact f)
  clear hc
  go_enter Try.func21, Try.ntmps21
  go_wp2_with fail
  refine (HK.out _).mono ?_
  rintro r0 w1 ⟨g, gc, rfl, hg, hgc, hh, hb⟩
  have HB1 := Lib.hid (HB.out.trans (hb.mono (by simp)))
  have z1 := hh.kind
  have z2 := hh.by'
  have z4 := hh.to'
  have z5 := hh.want
  have z6 := hh.price
  have z7 := hh.reserve
  have z8 := hh.step
  have z9 := hh.of'
  have z10 := hh.es
  have z11 := hh.wins
  have zA2 : ∀ X, (w1.alloc X).cell? ⟨g, 2, none⟩ = some (.int .i64 b) := fun X => (show Hall _ _ _ _ from hh.kept ((Below.refl _ _).alloc (Nat.le_refl _) X)).by'
  simp only [List.length_cons, List.length_nil, Nat.zero_add] at z1 z2 z4 z5 z6 z7 z8 z9 z10 z11
  clear hb hh HK
  obtain ⟨f0, f1, f2, f3, f4⟩ := HF.out _ HB1.out
  clear HF
  by_cases hk : k = 2 ∨ k = 3
  case neg =>
    have HT := Lib.hid (show termsV k b t wn p r s o ds = 200 by rw [← hds.out]; unfold termsV; rw [if_neg (by intro hh; exact hk hh.1)])
    have hwn : winsV k gc = .nilFunc := by unfold winsV; rw [if_neg (by omega), if_neg (by omega)]
    rw [hwn] at z11
    have q0 := fun W => eql73n W
    clear hwn
    clear hk
    go_wp2_with (go_at_call 48; (with_reducible refine (price_any _ _).mono ?_); rintro r2 w2 ⟨rfl, rfl⟩)
    go_ret
    exact ⟨by rw [HT.out]; try rfl, HB1.out⟩
  rcases hk with rfl | rfl
  · have hwn : winsV 2 gc = .func (.func 51) #[] #[.pointer (some ⟨gc, 0, none⟩)] := rfl
    rw [hwn] at z11
    clear hwn
    have q0 := fun f a b W => eql73 f a b W
    by_cases h : t = 0
    case neg =>
      have HT := Lib.hid (show termsV 2 b t wn p r s o ds = 200 by rw [← hds.out]; unfold termsV; rw [if_neg (by intro hh; exact h hh.2.1)])
      have c1 : (t != 0) = true := by simpa using h
      clear h
      go_wp2_with (go_at_call 48; (with_reducible refine (price_any _ _).mono ?_); rintro r2 w2 ⟨rfl, rfl⟩)
      go_ret
      exact ⟨by rw [HT.out]; try rfl, HB1.out⟩
    have c1 : (t != 0) = false := by simpa using h
    have K1 := Lib.hid h
    clear h
    by_cases h : wn = 0
    case neg =>
      have HT := Lib.hid (show termsV 2 b t wn p r s o ds = 200 by rw [← hds.out]; unfold termsV; rw [if_neg (by intro hh; exact h hh.2.2.1)])
      have c2 : (wn != 0) = true := by simpa using h
      clear h
      go_wp2_with (go_at_call 48; (with_reducible refine (price_any _ _).mono ?_); rintro r2 w2 ⟨rfl, rfl⟩)
      go_ret
      exact ⟨by rw [HT.out]; try rfl, HB1.out⟩
    have c2 : (wn != 0) = false := by simpa using h
    have K2 := Lib.hid h
    clear h
    by_cases h : p = 0
    case neg =>
      have HT := Lib.hid (show termsV 2 b t wn p r s o ds = 200 by rw [← hds.out]; unfold termsV; rw [if_neg (by intro hh; exact h hh.2.2.2.1)])
      have c3 : (p != 0) = true := by simpa using h
      clear h
      go_wp2_with (go_at_call 48; (with_reducible refine (price_any _ _).mono ?_); rintro r2 w2 ⟨rfl, rfl⟩)
      go_ret
      exact ⟨by rw [HT.out]; try rfl, HB1.out⟩
    have c3 : (p != 0) = false := by simpa using h
    have K3 := Lib.hid h
    clear h
    by_cases h : o = 0
    case neg =>
      have HT := Lib.hid (show termsV 2 b t wn p r s o ds = 200 by rw [← hds.out]; unfold termsV; rw [if_neg (by intro hh; exact h hh.2.2.2.2.1)])
      have c4 : (o != 0) = true := by simpa using h
      clear h
      go_wp2_with (go_at_call 48; (with_reducible refine (price_any _ _).mono ?_); rintro r2 w2 ⟨rfl, rfl⟩)
      go_ret
      exact ⟨by rw [HT.out]; try rfl, HB1.out⟩
    have c4 : (o != 0) = false := by simpa using h
    have K4 := Lib.hid h
    clear h
    by_cases h : pP r = true
    case neg =>
      have HT := Lib.hid (show termsV 2 b t wn p r s o ds = 200 by rw [← hds.out]; unfold termsV; rw [if_neg (by intro hh; exact h hh.2.2.2.2.2.1)])
      have c5 : pP r = false := by simpa using h
      clear h
      go_wp2_with (go_at_call 48; (with_reducible refine (price_any _ _).mono ?_); rintro r2 w2 ⟨rfl, rfl⟩)
      go_ret
      exact ⟨by rw [HT.out]; try rfl, HB1.out⟩
    have c5 : pP r = true := h
    have K5 := Lib.hid h
    clear h
    by_cases h : pP s = true
    case neg =>
      have HT := Lib.hid (show termsV 2 b t wn p r s o ds = 200 by rw [← hds.out]; unfold termsV; rw [if_neg (by intro hh; exact h (by simpa using hh.2.2.2.2.2.2.2.1))])
      have c7 : pP s = false := by simpa using h
      clear h
      go_wp2_with (go_at_call 48; (with_reducible refine (price_any _ _).mono ?_); rintro r2 w2 ⟨rfl, rfl⟩)
      go_ret
      exact ⟨by rw [HT.out]; try rfl, HB1.out⟩
    have c7 : pP s = true := h
    have K7 := Lib.hid h
    clear h
    by_cases h : xa = b
    case neg =>
      have HT := Lib.hid (show termsV 2 b t wn p r s o ds = 200 by rw [← hds.out]; unfold termsV; rw [if_neg (by intro hh; exact absurd (hh.2.2.2.2.2.2.2.2) (by intro h8; simp [oneV, Ent.d] at h8; exact h h8.1))])
      have d0 : (xa != b) = true := by simpa using h
      clear h
      go_wp2_with (go_at_call 48; (with_reducible refine (price_any _ _).mono ?_); rintro r2 w2 ⟨rfl, rfl⟩)
      go_quiet (fail)
      go_wp2
      go_ret
      exact ⟨by rw [HT.out]; try rfl, (HB1.out.alloc HB1.out.size _).trans ((Qt.drewN _ _).below _)⟩
    have d0 : (xa != b) = false := by simpa using h
    have D0 := Lib.hid h
    clear h
    by_cases h : 1 ≤ xi
    case neg =>
      have HT := Lib.hid (show termsV 2 b t wn p r s o ds = 200 by rw [← hds.out]; unfold termsV; rw [if_neg (by intro hh; exact absurd (hh.2.2.2.2.2.2.2.2) (by intro h8; simp [oneV, Ent.d] at h8; exact h h8.2.1))])
      have d1 : decide (xi < 1) = true := decide_eq_true (by omega)
      clear h
      go_wp2_with (go_at_call 48; (with_reducible refine (price_any _ _).mono ?_); rintro r2 w2 ⟨rfl, rfl⟩)
      go_quiet (fail)
      go_wp2
      go_ret
      exact ⟨by rw [HT.out]; try rfl, (HB1.out.alloc HB1.out.size _).trans ((Qt.drewN _ _).below _)⟩
    have d1 : decide (xi < 1) = false := decide_eq_false (by omega)
    have D1 := Lib.hid h
    clear h
    by_cases h : xc = 0
    case neg =>
      have HT := Lib.hid (show termsV 2 b t wn p r s o ds = 200 by rw [← hds.out]; unfold termsV; rw [if_neg (by intro hh; exact absurd (hh.2.2.2.2.2.2.2.2) (by intro h8; simp [oneV, Ent.d] at h8; exact h h8.2.2.1))])
      have d2 : (xc != 0) = true := by simpa using h
      clear h
      go_wp2_with (go_at_call 48; (with_reducible refine (price_any _ _).mono ?_); rintro r2 w2 ⟨rfl, rfl⟩)
      go_quiet (fail)
      go_wp2
      go_ret
      exact ⟨by rw [HT.out]; try rfl, (HB1.out.alloc HB1.out.size _).trans ((Qt.drewN _ _).below _)⟩
    have d2 : (xc != 0) = false := by simpa using h
    have D2 := Lib.hid h
    clear h
    by_cases h : xp = 0
    case neg =>
      have HT := Lib.hid (show termsV 2 b t wn p r s o ds = 200 by rw [← hds.out]; unfold termsV; rw [if_neg (by intro hh; exact absurd (hh.2.2.2.2.2.2.2.2) (by intro h8; simp [oneV, Ent.d] at h8; exact h h8.2.2.2.1))])
      have d3 : (xp != 0) = true := by simpa using h
      clear h
      go_wp2_with (go_at_call 48; (with_reducible refine (price_any _ _).mono ?_); rintro r2 w2 ⟨rfl, rfl⟩)
      go_quiet (fail)
      go_wp2
      go_ret
      exact ⟨by rw [HT.out]; try rfl, (HB1.out.alloc HB1.out.size _).trans ((Qt.drewN _ _).below _)⟩
    have d3 : (xp != 0) = false := by simpa using h
    have D3 := Lib.hid h
    clear h
    by_cases h : xs.length = 0
    case neg =>
      have HT := Lib.hid (show termsV 2 b t wn p r s o ds = 200 by rw [← hds.out]; unfold termsV; rw [if_neg (by intro hh; exact absurd (hh.2.2.2.2.2.2.2.2) (by intro h8; simp [oneV, Ent.d] at h8; exact h (by rw [h8.2.2.2.2]; rfl)))])
      have d4 : decide ((xs.length : Int) > 0) = true := decide_eq_true (by omega)
      have d4b : 0 < xs.length := by omega
      clear h
      go_wp2_with (go_at_call 48; (with_reducible refine (price_any _ _).mono ?_); rintro r2 w2 ⟨rfl, rfl⟩)
      go_quiet (fail)
      go_wp2
      go_ret
      exact ⟨by rw [HT.out]; try rfl, (HB1.out.alloc HB1.out.size _).trans ((Qt.drewN _ _).below _)⟩
    have d4b : ¬ 0 < xs.length := by omega
    have d4 : decide ((xs.length : Int) > 0) = false := decide_eq_false (by omega)
    have D4 := Lib.hid h
    clear h
    have HT := Lib.hid (show termsV 2 b t wn p r s o ds = 0 by rw [← hds.out]; unfold termsV; rw [if_pos ⟨by omega, K1.out, K2.out, K3.out, K4.out, K5.out, rfl, by simpa using K7.out, by show oneV b [(xa, xi, xc, xp, xs)] = true; simp only [oneV]; rw [decide_eq_true D0.out, decide_eq_true D1.out, decide_eq_true D2.out, decide_eq_true D3.out, decide_eq_true D4.out]; rfl⟩])
    go_wp2_with (go_at_call 48; (with_reducible refine (price_any _ _).mono ?_); rintro r2 w2 ⟨rfl, rfl⟩)
    go_quiet (fail)
    go_wp2
    go_ret
    exact ⟨by rw [HT.out]; try rfl, (HB1.out.alloc HB1.out.size _).trans ((Qt.drewN _ _).below _)⟩
  · have hwn : winsV 3 gc = .func (.func 52) #[] #[.pointer (some ⟨gc, 0, none⟩)] := rfl
    rw [hwn] at z11
    clear hwn
    have q0 := fun f a b W => eql73 f a b W
    by_cases h : t = 0
    case neg =>
      have HT := Lib.hid (show termsV 3 b t wn p r s o ds = 200 by rw [← hds.out]; unfold termsV; rw [if_neg (by intro hh; exact h hh.2.1)])
      have c1 : (t != 0) = true := by simpa using h
      clear h
      go_wp2_with (go_at_call 48; (with_reducible refine (price_any _ _).mono ?_); rintro r2 w2 ⟨rfl, rfl⟩)
      go_ret
      exact ⟨by rw [HT.out]; try rfl, HB1.out⟩
    have c1 : (t != 0) = false := by simpa using h
    have K1 := Lib.hid h
    clear h
    by_cases h : wn = 0
    case neg =>
      have HT := Lib.hid (show termsV 3 b t wn p r s o ds = 200 by rw [← hds.out]; unfold termsV; rw [if_neg (by intro hh; exact h hh.2.2.1)])
      have c2 : (wn != 0) = true := by simpa using h
      clear h
      go_wp2_with (go_at_call 48; (with_reducible refine (price_any _ _).mono ?_); rintro r2 w2 ⟨rfl, rfl⟩)
      go_ret
      exact ⟨by rw [HT.out]; try rfl, HB1.out⟩
    have c2 : (wn != 0) = false := by simpa using h
    have K2 := Lib.hid h
    clear h
    by_cases h : p = 0
    case neg =>
      have HT := Lib.hid (show termsV 3 b t wn p r s o ds = 200 by rw [← hds.out]; unfold termsV; rw [if_neg (by intro hh; exact h hh.2.2.2.1)])
      have c3 : (p != 0) = true := by simpa using h
      clear h
      go_wp2_with (go_at_call 48; (with_reducible refine (price_any _ _).mono ?_); rintro r2 w2 ⟨rfl, rfl⟩)
      go_ret
      exact ⟨by rw [HT.out]; try rfl, HB1.out⟩
    have c3 : (p != 0) = false := by simpa using h
    have K3 := Lib.hid h
    clear h
    by_cases h : o = 0
    case neg =>
      have HT := Lib.hid (show termsV 3 b t wn p r s o ds = 200 by rw [← hds.out]; unfold termsV; rw [if_neg (by intro hh; exact h hh.2.2.2.2.1)])
      have c4 : (o != 0) = true := by simpa using h
      clear h
      go_wp2_with (go_at_call 48; (with_reducible refine (price_any _ _).mono ?_); rintro r2 w2 ⟨rfl, rfl⟩)
      go_ret
      exact ⟨by rw [HT.out]; try rfl, HB1.out⟩
    have c4 : (o != 0) = false := by simpa using h
    have K4 := Lib.hid h
    clear h
    by_cases h : pP r = true
    case neg =>
      have HT := Lib.hid (show termsV 3 b t wn p r s o ds = 200 by rw [← hds.out]; unfold termsV; rw [if_neg (by intro hh; exact h hh.2.2.2.2.2.1)])
      have c5 : pP r = false := by simpa using h
      clear h
      go_wp2_with (go_at_call 48; (with_reducible refine (price_any _ _).mono ?_); rintro r2 w2 ⟨rfl, rfl⟩)
      go_ret
      exact ⟨by rw [HT.out]; try rfl, HB1.out⟩
    have c5 : pP r = true := h
    have K5 := Lib.hid h
    clear h
    by_cases h : s = 0
    case neg =>
      have HT := Lib.hid (show termsV 3 b t wn p r s o ds = 200 by rw [← hds.out]; unfold termsV; rw [if_neg (by intro hh; exact h (by simpa using hh.2.2.2.2.2.2.2.1))])
      have c7 : (s != 0) = true := by simpa using h
      clear h
      go_wp2_with (go_at_call 48; (with_reducible refine (price_any _ _).mono ?_); rintro r2 w2 ⟨rfl, rfl⟩)
      go_ret
      exact ⟨by rw [HT.out]; try rfl, HB1.out⟩
    have c7 : (s != 0) = false := by simpa using h
    have K7 := Lib.hid h
    clear h
    by_cases h : xa = b
    case neg =>
      have HT := Lib.hid (show termsV 3 b t wn p r s o ds = 200 by rw [← hds.out]; unfold termsV; rw [if_neg (by intro hh; exact absurd (hh.2.2.2.2.2.2.2.2) (by intro h8; simp [oneV, Ent.d] at h8; exact h h8.1))])
      have d0 : (xa != b) = true := by simpa using h
      clear h
      go_wp2_with (go_at_call 48; (with_reducible refine (price_any _ _).mono ?_); rintro r2 w2 ⟨rfl, rfl⟩)
      go_quiet (fail)
      go_wp2
      go_ret
      exact ⟨by rw [HT.out]; try rfl, (HB1.out.alloc HB1.out.size _).trans ((Qt.drewN _ _).below _)⟩
    have d0 : (xa != b) = false := by simpa using h
    have D0 := Lib.hid h
    clear h
    by_cases h : 1 ≤ xi
    case neg =>
      have HT := Lib.hid (show termsV 3 b t wn p r s o ds = 200 by rw [← hds.out]; unfold termsV; rw [if_neg (by intro hh; exact absurd (hh.2.2.2.2.2.2.2.2) (by intro h8; simp [oneV, Ent.d] at h8; exact h h8.2.1))])
      have d1 : decide (xi < 1) = true := decide_eq_true (by omega)
      clear h
      go_wp2_with (go_at_call 48; (with_reducible refine (price_any _ _).mono ?_); rintro r2 w2 ⟨rfl, rfl⟩)
      go_quiet (fail)
      go_wp2
      go_ret
      exact ⟨by rw [HT.out]; try rfl, (HB1.out.alloc HB1.out.size _).trans ((Qt.drewN _ _).below _)⟩
    have d1 : decide (xi < 1) = false := decide_eq_false (by omega)
    have D1 := Lib.hid h
    clear h
    by_cases h : xc = 0
    case neg =>
      have HT := Lib.hid (show termsV 3 b t wn p r s o ds = 200 by rw [← hds.out]; unfold termsV; rw [if_neg (by intro hh; exact absurd (hh.2.2.2.2.2.2.2.2) (by intro h8; simp [oneV, Ent.d] at h8; exact h h8.2.2.1))])
      have d2 : (xc != 0) = true := by simpa using h
      clear h
      go_wp2_with (go_at_call 48; (with_reducible refine (price_any _ _).mono ?_); rintro r2 w2 ⟨rfl, rfl⟩)
      go_quiet (fail)
      go_wp2
      go_ret
      exact ⟨by rw [HT.out]; try rfl, (HB1.out.alloc HB1.out.size _).trans ((Qt.drewN _ _).below _)⟩
    have d2 : (xc != 0) = false := by simpa using h
    have D2 := Lib.hid h
    clear h
    by_cases h : xp = 0
    case neg =>
      have HT := Lib.hid (show termsV 3 b t wn p r s o ds = 200 by rw [← hds.out]; unfold termsV; rw [if_neg (by intro hh; exact absurd (hh.2.2.2.2.2.2.2.2) (by intro h8; simp [oneV, Ent.d] at h8; exact h h8.2.2.2.1))])
      have d3 : (xp != 0) = true := by simpa using h
      clear h
      go_wp2_with (go_at_call 48; (with_reducible refine (price_any _ _).mono ?_); rintro r2 w2 ⟨rfl, rfl⟩)
      go_quiet (fail)
      go_wp2
      go_ret
      exact ⟨by rw [HT.out]; try rfl, (HB1.out.alloc HB1.out.size _).trans ((Qt.drewN _ _).below _)⟩
    have d3 : (xp != 0) = false := by simpa using h
    have D3 := Lib.hid h
    clear h
    by_cases h : xs.length = 0
    case neg =>
      have HT := Lib.hid (show termsV 3 b t wn p r s o ds = 200 by rw [← hds.out]; unfold termsV; rw [if_neg (by intro hh; exact absurd (hh.2.2.2.2.2.2.2.2) (by intro h8; simp [oneV, Ent.d] at h8; exact h (by rw [h8.2.2.2.2]; rfl)))])
      have d4 : decide ((xs.length : Int) > 0) = true := decide_eq_true (by omega)
      have d4b : 0 < xs.length := by omega
      clear h
      go_wp2_with (go_at_call 48; (with_reducible refine (price_any _ _).mono ?_); rintro r2 w2 ⟨rfl, rfl⟩)
      go_quiet (fail)
      go_wp2
      go_ret
      exact ⟨by rw [HT.out]; try rfl, (HB1.out.alloc HB1.out.size _).trans ((Qt.drewN _ _).below _)⟩
    have d4b : ¬ 0 < xs.length := by omega
    have d4 : decide ((xs.length : Int) > 0) = false := decide_eq_false (by omega)
    have D4 := Lib.hid h
    clear h
    have HT := Lib.hid (show termsV 3 b t wn p r s o ds = 0 by rw [← hds.out]; unfold termsV; rw [if_pos ⟨by omega, K1.out, K2.out, K3.out, K4.out, K5.out, rfl, by simpa using K7.out, by show oneV b [(xa, xi, xc, xp, xs)] = true; simp only [oneV]; rw [decide_eq_true D0.out, decide_eq_true D1.out, decide_eq_true D2.out, decide_eq_true D3.out, decide_eq_true D4.out]; rfl⟩])
    go_wp2_with (go_at_call 48; (with_reducible refine (price_any _ _).mono ?_); rintro r2 w2 ⟨rfl, rfl⟩)
    go_quiet (fail)
    go_wp2
    go_ret
    exact ⟨by rw [HT.out]; try rfl, (HB1.out.alloc HB1.out.size _).trans ((Qt.drewN _ _).below _)⟩
theorem terms_any (c : Con) (w : World) (hc : ConOk w c) : Calls Try.prog 21 #[c.agg] w fun e w' => e = .returned (.int .i64 (termsV c.kind c.by' c.to' c.want c.price c.reserve c.step c.of' (c.es.map Ent.d))) ∧ Below w.heap.size w w' := by
  obtain ⟨n, k, b, d, t, wn, p, r, s, o, ea, ec, es⟩ := c
  by_cases hl : es.length = 1
  · obtain ⟨⟨xa, xi, xc, xp, xw, xk, xs⟩, rfl⟩ := List.length_eq_one_iff.1 hl
    exact terms_one n k b d t wn p r s o ea ec xa xi xc xp xw xk xs w hc _ (Lib.hid rfl)
  · exact terms_len n k b d t wn p r s o ea ec es w hc hl _ (Lib.hid rfl)
set_option maxRecDepth 100000 in
set_option maxHeartbeats 4000000 in
theorem rterms_len (n k b d t wn p r s o : Int) (ea : Option Addr) (ec : Nat) (es : List Ent) (w : World) (hc : ConOk w ⟨n, k, b, d, t, wn, p, r, s, o, ea, ec, es⟩) (hl : es.length ≠ 1) (ds : List DE) (hds : Hid (List.map Ent.d es = ds)) :
    Calls Try.prog 22 #[.agg #[.int .i64 n, .int .i64 k, .int .i64 b, .int .i64 d, .int .i64 t, .int .i64 wn, .int .u64 p, .int .u64 r, .int .u64 s, .int .i64 o, .slice ea es.length ec]] w fun e w' => e = .returned (.int .i64 (termsV k b t wn p r s o ds)) ∧ Below w.heap.size w w' := by
  have HB := Lib.hid ((Below.refl w.heap.size w).alloc (Nat.le_refl _) (.cells #[.int .i64 n, .int .i64 k, .int .i64 b, .int .i64 d, .int .i64 t, .int .i64 wn, .int .u64 p, .int .u64 r, .int .u64 s, .int .i64 o, .slice ea es.length ec] 25))
  have cl : ((es.length : Int) != 1) = true := by simp; omega
  have HLN := Lib.hid (show (List.map Ent.d es).length ≠ 1 by rw [List.length_map]; exact hl)
  clear hl
  clear hc
  go_enter Try.func22, Try.ntmps22
  by_cases hk : k = 2 ∨ k = 3
  case neg =>
    have HT := Lib.hid (show termsV k b t wn p r s o ds = 200 by rw [← hds.out]; unfold termsV; rw [if_neg (by intro hh; exact hk hh.1)])
    have c1 : (k != 2) = true := by simp; omega
    have c2 : (k != 3) = true := by simp; omega
    clear hk
    go_wp2
    go_ret
    exact ⟨by rw [HT.out]; try rfl, HB.out⟩
  rcases hk with rfl | rfl
  · skip
    by_cases h : t = 0
    case neg =>
      have HT := Lib.hid (show termsV 2 b t wn p r s o ds = 200 by rw [← hds.out]; unfold termsV; rw [if_neg (by intro hh; exact h hh.2.1)])
      have c1 : (t != 0) = true := by simpa using h
      clear h
      go_wp2
      go_ret
      exact ⟨by rw [HT.out]; try rfl, HB.out⟩
    have c1 : (t != 0) = false := by simpa using h
    have K1 := Lib.hid h
    clear h
    by_cases h : wn = 0
    case neg =>
      have HT := Lib.hid (show termsV 2 b t wn p r s o ds = 200 by rw [← hds.out]; unfold termsV; rw [if_neg (by intro hh; exact h hh.2.2.1)])
      have c2 : (wn != 0) = true := by simpa using h
      clear h
      go_wp2
      go_ret
      exact ⟨by rw [HT.out]; try rfl, HB.out⟩
    have c2 : (wn != 0) = false := by simpa using h
    have K2 := Lib.hid h
    clear h
    by_cases h : p = 0
    case neg =>
      have HT := Lib.hid (show termsV 2 b t wn p r s o ds = 200 by rw [← hds.out]; unfold termsV; rw [if_neg (by intro hh; exact h hh.2.2.2.1)])
      have c3 : (p != 0) = true := by simpa using h
      clear h
      go_wp2
      go_ret
      exact ⟨by rw [HT.out]; try rfl, HB.out⟩
    have c3 : (p != 0) = false := by simpa using h
    have K3 := Lib.hid h
    clear h
    by_cases h : o = 0
    case neg =>
      have HT := Lib.hid (show termsV 2 b t wn p r s o ds = 200 by rw [← hds.out]; unfold termsV; rw [if_neg (by intro hh; exact h hh.2.2.2.2.1)])
      have c4 : (o != 0) = true := by simpa using h
      clear h
      go_wp2
      go_ret
      exact ⟨by rw [HT.out]; try rfl, HB.out⟩
    have c4 : (o != 0) = false := by simpa using h
    have K4 := Lib.hid h
    clear h
    by_cases h : r < 1
    case pos =>
      have HT := Lib.hid (show termsV 2 b t wn p r s o ds = 200 by rw [← hds.out]; unfold termsV; rw [if_neg (by intro hh; exact pP_low h hh.2.2.2.2.2.1)])
      have c5 : decide (r < 1) = true := decide_eq_true h
      clear h
      go_wp2
      go_ret
      exact ⟨by rw [HT.out]; try rfl, HB.out⟩
    have c5 : decide (r < 1) = false := decide_eq_false h
    have K5a := Lib.hid h
    clear h
    by_cases h : r > 4611686018427387904
    case pos =>
      have HT := Lib.hid (show termsV 2 b t wn p r s o ds = 200 by rw [← hds.out]; unfold termsV; rw [if_neg (by intro hh; exact pP_high h hh.2.2.2.2.2.1)])
      have c6 : decide (r > 4611686018427387904) = true := decide_eq_true h
      clear h
      go_wp2
      go_ret
      exact ⟨by rw [HT.out]; try rfl, HB.out⟩
    have c6 : decide (r > 4611686018427387904) = false := decide_eq_false h
    have K5 := Lib.hid (pP_of K5a.out h)
    clear h
    have HT := Lib.hid (show termsV 2 b t wn p r s o ds = 200 by rw [← hds.out]; unfold termsV; rw [if_neg (by intro hh; exact HLN.out hh.2.2.2.2.2.2.1)])
    go_wp2
    go_ret
    exact ⟨by rw [HT.out]; try rfl, HB.out⟩
  · skip
    by_cases h : t = 0
    case neg =>
      have HT := Lib.hid (show termsV 3 b t wn p r s o ds = 200 by rw [← hds.out]; unfold termsV; rw [if_neg (by intro hh; exact h hh.2.1)])
      have c1 : (t != 0) = true := by simpa using h
      clear h
      go_wp2
      go_ret
      exact ⟨by rw [HT.out]; try rfl, HB.out⟩
    have c1 : (t != 0) = false := by simpa using h
    have K1 := Lib.hid h
    clear h
    by_cases h : wn = 0
    case neg =>
      have HT := Lib.hid (show termsV 3 b t wn p r s o ds = 200 by rw [← hds.out]; unfold termsV; rw [if_neg (by intro hh; exact h hh.2.2.1)])
      have c2 : (wn != 0) = true := by simpa using h
      clear h
      go_wp2
      go_ret
      exact ⟨by rw [HT.out]; try rfl, HB.out⟩
    have c2 : (wn != 0) = false := by simpa using h
    have K2 := Lib.hid h
    clear h
    by_cases h : p = 0
    case neg =>
      have HT := Lib.hid (show termsV 3 b t wn p r s o ds = 200 by rw [← hds.out]; unfold termsV; rw [if_neg (by intro hh; exact h hh.2.2.2.1)])
      have c3 : (p != 0) = true := by simpa using h
      clear h
      go_wp2
      go_ret
      exact ⟨by rw [HT.out]; try rfl, HB.out⟩
    have c3 : (p != 0) = false := by simpa using h
    have K3 := Lib.hid h
    clear h
    by_cases h : o = 0
    case neg =>
      have HT := Lib.hid (show termsV 3 b t wn p r s o ds = 200 by rw [← hds.out]; unfold termsV; rw [if_neg (by intro hh; exact h hh.2.2.2.2.1)])
      have c4 : (o != 0) = true := by simpa using h
      clear h
      go_wp2
      go_ret
      exact ⟨by rw [HT.out]; try rfl, HB.out⟩
    have c4 : (o != 0) = false := by simpa using h
    have K4 := Lib.hid h
    clear h
    by_cases h : r < 1
    case pos =>
      have HT := Lib.hid (show termsV 3 b t wn p r s o ds = 200 by rw [← hds.out]; unfold termsV; rw [if_neg (by intro hh; exact pP_low h hh.2.2.2.2.2.1)])
      have c5 : decide (r < 1) = true := decide_eq_true h
      clear h
      go_wp2
      go_ret
      exact ⟨by rw [HT.out]; try rfl, HB.out⟩
    have c5 : decide (r < 1) = false := decide_eq_false h
    have K5a := Lib.hid h
    clear h
    by_cases h : r > 4611686018427387904
    case pos =>
      have HT := Lib.hid (show termsV 3 b t wn p r s o ds = 200 by rw [← hds.out]; unfold termsV; rw [if_neg (by intro hh; exact pP_high h hh.2.2.2.2.2.1)])
      have c6 : decide (r > 4611686018427387904) = true := decide_eq_true h
      clear h
      go_wp2
      go_ret
      exact ⟨by rw [HT.out]; try rfl, HB.out⟩
    have c6 : decide (r > 4611686018427387904) = false := decide_eq_false h
    have K5 := Lib.hid (pP_of K5a.out h)
    clear h
    have HT := Lib.hid (show termsV 3 b t wn p r s o ds = 200 by rw [← hds.out]; unfold termsV; rw [if_neg (by intro hh; exact HLN.out hh.2.2.2.2.2.2.1)])
    go_wp2
    go_ret
    exact ⟨by rw [HT.out]; try rfl, HB.out⟩
set_option maxRecDepth 100000 in
set_option maxHeartbeats 4000000 in
theorem rterms_one (n k b d t wn p r s o : Int) (ea : Option Addr) (ec : Nat) (xa xi xc xp : Int) (xw : Option Addr) (xk : Nat) (xs : List Int) (w : World) (hc : ConOk w ⟨n, k, b, d, t, wn, p, r, s, o, ea, ec, [⟨xa, xi, xc, xp, xw, xk, xs⟩]⟩) (ds : List DE) (hds : Hid (List.map Ent.d [⟨xa, xi, xc, xp, xw, xk, xs⟩] = ds)) :
    Calls Try.prog 22 #[.agg #[.int .i64 n, .int .i64 k, .int .i64 b, .int .i64 d, .int .i64 t, .int .i64 wn, .int .u64 p, .int .u64 r, .int .u64 s, .int .i64 o, .slice ea 1 ec]] w fun e w' => e = .returned (.int .i64 (termsV k b t wn p r s o ds)) ∧ Below w.heap.size w w' := by
  have HB := Lib.hid ((Below.refl w.heap.size w).alloc (Nat.le_refl _) (.cells #[.int .i64 n, .int .i64 k, .int .i64 b, .int .i64 d, .int .i64 t, .int .i64 wn, .int .u64 p, .int .u64 r, .int .u64 s, .int .i64 o, .slice ea 1 ec] 25))
  obtain ⟨ob, oo, hea, _⟩ := hc.one rfl
  simp only at hea
  subst hea
  have HF := Lib.hid (show ∀ V, Below w.heap.size w V → V.cell? ⟨ob, oo, none⟩ = some (.int .i64 xa) ∧ V.cell? ⟨ob, oo + 1, none⟩ = some (.int .i64 xi) ∧ V.cell? ⟨ob, oo + 2, none⟩ = some (.int .u64 xc) ∧ V.cell? ⟨ob, oo + 3, none⟩ = some (.int .u64 xp) ∧ V.cell? ⟨ob, oo + 4, none⟩ = some (.slice xw xs.length xk) from fun V h => by
    obtain ⟨_, _, he, f⟩ := (hc.kept h).one rfl
    simp only at he
    cases he
    exact f)
  clear hc
  go_enter Try.func22, Try.ntmps22
  obtain ⟨f0, f1, f2, f3, f4⟩ := HF.out _ HB.out
  clear HF
  by_cases hk : k = 2 ∨ k = 3
  case neg =>
    have HT := Lib.hid (show termsV k b t wn p r s o ds = 200 by rw [← hds.out]; unfold termsV; rw [if_neg (by intro hh; exact hk hh.1)])
    have c1 : (k != 2) = true := by simp; omega
    have c2 : (k != 3) = true := by simp; omega
    clear hk
    go_wp2
    go_ret
    exact ⟨by rw [HT.out]; try rfl, HB.out⟩
  rcases hk with rfl | rfl
  · skip
    by_cases h : t = 0
    case neg =>
      have HT := Lib.hid (show termsV 2 b t wn p r s o ds = 200 by rw [← hds.out]; unfold termsV; rw [if_neg (by intro hh; exact h hh.2.1)])
      have c1 : (t != 0) = true := by simpa using h
      clear h
      go_wp2
      go_ret
      exact ⟨by rw [HT.out]; try rfl, HB.out⟩
    have c1 : (t != 0) = false := by simpa using h
    have K1 := Lib.hid h
    clear h
    by_cases h : wn = 0
    case neg =>
      have HT := Lib.hid (show termsV 2 b t wn p r s o ds = 200 by rw [← hds.out]; unfold termsV; rw [if_neg (by intro hh; exact h hh.2.2.1)])
      have c2 : (wn != 0) = true := by simpa using h
      clear h
      go_wp2
      go_ret
      exact ⟨by rw [HT.out]; try rfl, HB.out⟩
    have c2 : (wn != 0) = false := by simpa using h
    have K2 := Lib.hid h
    clear h
    by_cases h : p = 0
    case neg =>
      have HT := Lib.hid (show termsV 2 b t wn p r s o ds = 200 by rw [← hds.out]; unfold termsV; rw [if_neg (by intro hh; exact h hh.2.2.2.1)])
      have c3 : (p != 0) = true := by simpa using h
      clear h
      go_wp2
      go_ret
      exact ⟨by rw [HT.out]; try rfl, HB.out⟩
    have c3 : (p != 0) = false := by simpa using h
    have K3 := Lib.hid h
    clear h
    by_cases h : o = 0
    case neg =>
      have HT := Lib.hid (show termsV 2 b t wn p r s o ds = 200 by rw [← hds.out]; unfold termsV; rw [if_neg (by intro hh; exact h hh.2.2.2.2.1)])
      have c4 : (o != 0) = true := by simpa using h
      clear h
      go_wp2
      go_ret
      exact ⟨by rw [HT.out]; try rfl, HB.out⟩
    have c4 : (o != 0) = false := by simpa using h
    have K4 := Lib.hid h
    clear h
    by_cases h : r < 1
    case pos =>
      have HT := Lib.hid (show termsV 2 b t wn p r s o ds = 200 by rw [← hds.out]; unfold termsV; rw [if_neg (by intro hh; exact pP_low h hh.2.2.2.2.2.1)])
      have c5 : decide (r < 1) = true := decide_eq_true h
      clear h
      go_wp2
      go_ret
      exact ⟨by rw [HT.out]; try rfl, HB.out⟩
    have c5 : decide (r < 1) = false := decide_eq_false h
    have K5a := Lib.hid h
    clear h
    by_cases h : r > 4611686018427387904
    case pos =>
      have HT := Lib.hid (show termsV 2 b t wn p r s o ds = 200 by rw [← hds.out]; unfold termsV; rw [if_neg (by intro hh; exact pP_high h hh.2.2.2.2.2.1)])
      have c6 : decide (r > 4611686018427387904) = true := decide_eq_true h
      clear h
      go_wp2
      go_ret
      exact ⟨by rw [HT.out]; try rfl, HB.out⟩
    have c6 : decide (r > 4611686018427387904) = false := decide_eq_false h
    have K5 := Lib.hid (pP_of K5a.out h)
    clear h
    by_cases h : s < 1
    case pos =>
      have HT := Lib.hid (show termsV 2 b t wn p r s o ds = 200 by rw [← hds.out]; unfold termsV; rw [if_neg (by intro hh; exact pP_low h (by simpa using hh.2.2.2.2.2.2.2.1))])
      have c7 : decide (s < 1) = true := decide_eq_true h
      clear h
      go_wp2
      go_ret
      exact ⟨by rw [HT.out]; try rfl, HB.out⟩
    have c7 : decide (s < 1) = false := decide_eq_false h
    have K7a := Lib.hid h
    clear h
    by_cases h : s > 4611686018427387904
    case pos =>
      have HT := Lib.hid (show termsV 2 b t wn p r s o ds = 200 by rw [← hds.out]; unfold termsV; rw [if_neg (by intro hh; exact pP_high h (by simpa using hh.2.2.2.2.2.2.2.1))])
      have c8 : decide (s > 4611686018427387904) = true := decide_eq_true h
      clear h
      go_wp2
      go_ret
      exact ⟨by rw [HT.out]; try rfl, HB.out⟩
    have c8 : decide (s > 4611686018427387904) = false := decide_eq_false h
    have K7 := Lib.hid (pP_of K7a.out h)
    clear h
    by_cases h : xa = b
    case neg =>
      have HT := Lib.hid (show termsV 2 b t wn p r s o ds = 200 by rw [← hds.out]; unfold termsV; rw [if_neg (by intro hh; exact absurd (hh.2.2.2.2.2.2.2.2) (by intro h8; simp [oneV, Ent.d] at h8; exact h h8.1))])
      have d0 : (xa != b) = true := by simpa using h
      clear h
      go_wp2
      go_ret
      exact ⟨by rw [HT.out]; try rfl, HB.out.alloc HB.out.size _⟩
    have d0 : (xa != b) = false := by simpa using h
    have D0 := Lib.hid h
    clear h
    by_cases h : 1 ≤ xi
    case neg =>
      have HT := Lib.hid (show termsV 2 b t wn p r s o ds = 200 by rw [← hds.out]; unfold termsV; rw [if_neg (by intro hh; exact absurd (hh.2.2.2.2.2.2.2.2) (by intro h8; simp [oneV, Ent.d] at h8; exact h h8.2.1))])
      have d1 : decide (xi < 1) = true := decide_eq_true (by omega)
      clear h
      go_wp2
      go_ret
      exact ⟨by rw [HT.out]; try rfl, HB.out.alloc HB.out.size _⟩
    have d1 : decide (xi < 1) = false := decide_eq_false (by omega)
    have D1 := Lib.hid h
    clear h
    by_cases h : xc = 0
    case neg =>
      have HT := Lib.hid (show termsV 2 b t wn p r s o ds = 200 by rw [← hds.out]; unfold termsV; rw [if_neg (by intro hh; exact absurd (hh.2.2.2.2.2.2.2.2) (by intro h8; simp [oneV, Ent.d] at h8; exact h h8.2.2.1))])
      have d2 : (xc != 0) = true := by simpa using h
      clear h
      go_wp2
      go_ret
      exact ⟨by rw [HT.out]; try rfl, HB.out.alloc HB.out.size _⟩
    have d2 : (xc != 0) = false := by simpa using h
    have D2 := Lib.hid h
    clear h
    by_cases h : xp = 0
    case neg =>
      have HT := Lib.hid (show termsV 2 b t wn p r s o ds = 200 by rw [← hds.out]; unfold termsV; rw [if_neg (by intro hh; exact absurd (hh.2.2.2.2.2.2.2.2) (by intro h8; simp [oneV, Ent.d] at h8; exact h h8.2.2.2.1))])
      have d3 : (xp != 0) = true := by simpa using h
      clear h
      go_wp2
      go_ret
      exact ⟨by rw [HT.out]; try rfl, HB.out.alloc HB.out.size _⟩
    have d3 : (xp != 0) = false := by simpa using h
    have D3 := Lib.hid h
    clear h
    by_cases h : xs.length = 0
    case neg =>
      have HT := Lib.hid (show termsV 2 b t wn p r s o ds = 200 by rw [← hds.out]; unfold termsV; rw [if_neg (by intro hh; exact absurd (hh.2.2.2.2.2.2.2.2) (by intro h8; simp [oneV, Ent.d] at h8; exact h (by rw [h8.2.2.2.2]; rfl)))])
      have d4 : ((xs.length : Int) != 0) = true := by simp; intro e; exact h (by rw [e]; rfl)
      clear h
      go_wp2
      go_ret
      exact ⟨by rw [HT.out]; try rfl, HB.out.alloc HB.out.size _⟩
    have d4 : ((xs.length : Int) != 0) = false := by rw [h]; rfl
    have D4 := Lib.hid h
    clear h
    have HT := Lib.hid (show termsV 2 b t wn p r s o ds = 0 by rw [← hds.out]; unfold termsV; rw [if_pos ⟨by omega, K1.out, K2.out, K3.out, K4.out, K5.out, rfl, by simpa using K7.out, by show oneV b [(xa, xi, xc, xp, xs)] = true; simp only [oneV]; rw [decide_eq_true D0.out, decide_eq_true D1.out, decide_eq_true D2.out, decide_eq_true D3.out, decide_eq_true D4.out]; rfl⟩])
    go_wp2
    go_ret
    exact ⟨by rw [HT.out]; try rfl, HB.out.alloc HB.out.size _⟩
  · skip
    by_cases h : t = 0
    case neg =>
      have HT := Lib.hid (show termsV 3 b t wn p r s o ds = 200 by rw [← hds.out]; unfold termsV; rw [if_neg (by intro hh; exact h hh.2.1)])
      have c1 : (t != 0) = true := by simpa using h
      clear h
      go_wp2
      go_ret
      exact ⟨by rw [HT.out]; try rfl, HB.out⟩
    have c1 : (t != 0) = false := by simpa using h
    have K1 := Lib.hid h
    clear h
    by_cases h : wn = 0
    case neg =>
      have HT := Lib.hid (show termsV 3 b t wn p r s o ds = 200 by rw [← hds.out]; unfold termsV; rw [if_neg (by intro hh; exact h hh.2.2.1)])
      have c2 : (wn != 0) = true := by simpa using h
      clear h
      go_wp2
      go_ret
      exact ⟨by rw [HT.out]; try rfl, HB.out⟩
    have c2 : (wn != 0) = false := by simpa using h
    have K2 := Lib.hid h
    clear h
    by_cases h : p = 0
    case neg =>
      have HT := Lib.hid (show termsV 3 b t wn p r s o ds = 200 by rw [← hds.out]; unfold termsV; rw [if_neg (by intro hh; exact h hh.2.2.2.1)])
      have c3 : (p != 0) = true := by simpa using h
      clear h
      go_wp2
      go_ret
      exact ⟨by rw [HT.out]; try rfl, HB.out⟩
    have c3 : (p != 0) = false := by simpa using h
    have K3 := Lib.hid h
    clear h
    by_cases h : o = 0
    case neg =>
      have HT := Lib.hid (show termsV 3 b t wn p r s o ds = 200 by rw [← hds.out]; unfold termsV; rw [if_neg (by intro hh; exact h hh.2.2.2.2.1)])
      have c4 : (o != 0) = true := by simpa using h
      clear h
      go_wp2
      go_ret
      exact ⟨by rw [HT.out]; try rfl, HB.out⟩
    have c4 : (o != 0) = false := by simpa using h
    have K4 := Lib.hid h
    clear h
    by_cases h : r < 1
    case pos =>
      have HT := Lib.hid (show termsV 3 b t wn p r s o ds = 200 by rw [← hds.out]; unfold termsV; rw [if_neg (by intro hh; exact pP_low h hh.2.2.2.2.2.1)])
      have c5 : decide (r < 1) = true := decide_eq_true h
      clear h
      go_wp2
      go_ret
      exact ⟨by rw [HT.out]; try rfl, HB.out⟩
    have c5 : decide (r < 1) = false := decide_eq_false h
    have K5a := Lib.hid h
    clear h
    by_cases h : r > 4611686018427387904
    case pos =>
      have HT := Lib.hid (show termsV 3 b t wn p r s o ds = 200 by rw [← hds.out]; unfold termsV; rw [if_neg (by intro hh; exact pP_high h hh.2.2.2.2.2.1)])
      have c6 : decide (r > 4611686018427387904) = true := decide_eq_true h
      clear h
      go_wp2
      go_ret
      exact ⟨by rw [HT.out]; try rfl, HB.out⟩
    have c6 : decide (r > 4611686018427387904) = false := decide_eq_false h
    have K5 := Lib.hid (pP_of K5a.out h)
    clear h
    by_cases h : s = 0
    case neg =>
      have HT := Lib.hid (show termsV 3 b t wn p r s o ds = 200 by rw [← hds.out]; unfold termsV; rw [if_neg (by intro hh; exact h (by simpa using hh.2.2.2.2.2.2.2.1))])
      have c7 : (s != 0) = true := by simpa using h
      clear h
      go_wp2
      go_ret
      exact ⟨by rw [HT.out]; try rfl, HB.out⟩
    have c7 : (s != 0) = false := by simpa using h
    have K7 := Lib.hid h
    clear h
    by_cases h : xa = b
    case neg =>
      have HT := Lib.hid (show termsV 3 b t wn p r s o ds = 200 by rw [← hds.out]; unfold termsV; rw [if_neg (by intro hh; exact absurd (hh.2.2.2.2.2.2.2.2) (by intro h8; simp [oneV, Ent.d] at h8; exact h h8.1))])
      have d0 : (xa != b) = true := by simpa using h
      clear h
      go_wp2
      go_ret
      exact ⟨by rw [HT.out]; try rfl, HB.out.alloc HB.out.size _⟩
    have d0 : (xa != b) = false := by simpa using h
    have D0 := Lib.hid h
    clear h
    by_cases h : 1 ≤ xi
    case neg =>
      have HT := Lib.hid (show termsV 3 b t wn p r s o ds = 200 by rw [← hds.out]; unfold termsV; rw [if_neg (by intro hh; exact absurd (hh.2.2.2.2.2.2.2.2) (by intro h8; simp [oneV, Ent.d] at h8; exact h h8.2.1))])
      have d1 : decide (xi < 1) = true := decide_eq_true (by omega)
      clear h
      go_wp2
      go_ret
      exact ⟨by rw [HT.out]; try rfl, HB.out.alloc HB.out.size _⟩
    have d1 : decide (xi < 1) = false := decide_eq_false (by omega)
    have D1 := Lib.hid h
    clear h
    by_cases h : xc = 0
    case neg =>
      have HT := Lib.hid (show termsV 3 b t wn p r s o ds = 200 by rw [← hds.out]; unfold termsV; rw [if_neg (by intro hh; exact absurd (hh.2.2.2.2.2.2.2.2) (by intro h8; simp [oneV, Ent.d] at h8; exact h h8.2.2.1))])
      have d2 : (xc != 0) = true := by simpa using h
      clear h
      go_wp2
      go_ret
      exact ⟨by rw [HT.out]; try rfl, HB.out.alloc HB.out.size _⟩
    have d2 : (xc != 0) = false := by simpa using h
    have D2 := Lib.hid h
    clear h
    by_cases h : xp = 0
    case neg =>
      have HT := Lib.hid (show termsV 3 b t wn p r s o ds = 200 by rw [← hds.out]; unfold termsV; rw [if_neg (by intro hh; exact absurd (hh.2.2.2.2.2.2.2.2) (by intro h8; simp [oneV, Ent.d] at h8; exact h h8.2.2.2.1))])
      have d3 : (xp != 0) = true := by simpa using h
      clear h
      go_wp2
      go_ret
      exact ⟨by rw [HT.out]; try rfl, HB.out.alloc HB.out.size _⟩
    have d3 : (xp != 0) = false := by simpa using h
    have D3 := Lib.hid h
    clear h
    by_cases h : xs.length = 0
    case neg =>
      have HT := Lib.hid (show termsV 3 b t wn p r s o ds = 200 by rw [← hds.out]; unfold termsV; rw [if_neg (by intro hh; exact absurd (hh.2.2.2.2.2.2.2.2) (by intro h8; simp [oneV, Ent.d] at h8; exact h (by rw [h8.2.2.2.2]; rfl)))])
      have d4 : ((xs.length : Int) != 0) = true := by simp; intro e; exact h (by rw [e]; rfl)
      clear h
      go_wp2
      go_ret
      exact ⟨by rw [HT.out]; try rfl, HB.out.alloc HB.out.size _⟩
    have d4 : ((xs.length : Int) != 0) = false := by rw [h]; rfl
    have D4 := Lib.hid h
    clear h
    have HT := Lib.hid (show termsV 3 b t wn p r s o ds = 0 by rw [← hds.out]; unfold termsV; rw [if_pos ⟨by omega, K1.out, K2.out, K3.out, K4.out, K5.out, rfl, by simpa using K7.out, by show oneV b [(xa, xi, xc, xp, xs)] = true; simp only [oneV]; rw [decide_eq_true D0.out, decide_eq_true D1.out, decide_eq_true D2.out, decide_eq_true D3.out, decide_eq_true D4.out]; rfl⟩])
    go_wp2
    go_ret
    exact ⟨by rw [HT.out]; try rfl, HB.out.alloc HB.out.size _⟩
theorem rterms_any (c : Con) (w : World) (hc : ConOk w c) : Calls Try.prog 22 #[c.agg] w fun e w' => e = .returned (.int .i64 (termsV c.kind c.by' c.to' c.want c.price c.reserve c.step c.of' (c.es.map Ent.d))) ∧ Below w.heap.size w w' := by
  obtain ⟨n, k, b, d, t, wn, p, r, s, o, ea, ec, es⟩ := c
  by_cases hl : es.length = 1
  · obtain ⟨⟨xa, xi, xc, xp, xw, xk, xs⟩, rfl⟩ := List.length_eq_one_iff.1 hl
    exact rterms_one n k b d t wn p r s o ea ec xa xi xc xp xw xk xs w hc _ (Lib.hid rfl)
  · exact rterms_len n k b d t wn p r s o ea ec es w hc hl _ (Lib.hid rfl)
end Go.Proofs.Ytpejcndfplbikaa
