/-
  Layer 21: the least bid of the document; what its walk of Join needs.
-/
import Derived.Test.YtpejcndfplbikaaVq
import Derived.Deep.DeepCutAuto
import Derived.Deep.CutBlock
namespace Go.Proofs.Ytpejcndfplbikaa
open Go.RowKit Go.K
set_option linter.unusedVariables false
set_option linter.unusedSimpArgs false
theorem hasD_yes (l : List DE) (x : Int) (q : Nat) (h1 : 1 ≤ q) (h2 : q < l.length) (h : dA l q = x) : hasD (l.drop 1) x = true := by
  unfold hasD
  rw [List.any_eq_true]
  refine ⟨l[q], ?_, ?_⟩
  · rw [List.mem_iff_getElem]
    exact ⟨q - 1, by rw [List.length_drop]; omega, by rw [List.getElem_drop]; congr 1; omega⟩
  · have e : dA l q = l[q].1 := by unfold dA; rw [List.getD_eq_getElem?_getD, List.getElem?_eq_getElem h2]; rfl
    rw [← h, e]; simp
theorem hasD_no (l : List DE) (x : Int) (h : ∀ q, 1 ≤ q → q < l.length → dA l q ≠ x) : hasD (l.drop 1) x = false := by
  unfold hasD
  rw [List.any_eq_false]
  intro y hy
  obtain ⟨i, hi, rfl⟩ := List.getElem_of_mem hy
  rw [List.length_drop] at hi
  rw [List.getElem_drop]
  have e : dA l (1 + i) = (l[1 + i]'(by omega)).1 := by unfold dA; rw [List.getD_eq_getElem?_getD, List.getElem?_eq_getElem (by omega)]; rfl
  have := h (1 + i) (by omega) (by omega)
  rw [e] at this
  simpa using this
theorem JI.past {w : World} {g B : Nat} {rw' : Value → Array Value} {ty : TypeId} {cr er zr : Array Value} {W W' : World} {ev gv : Value} {ls : List Ent} {gs : List Gi} (h : JI w g B rw' ty cr er zr W ev gv ls gs) (hg : W.grownBy W' ev.ownBlock) :
    Below w.heap.size w W' ∧ W'.heap[g]? = some (.cells (rw' ev) ty) ∧ W'.heap[w.heap.size]? = some (.cells cr 25) ∧ W'.heap[w.heap.size + 1]? = some (.cells er 33) := by
  have h1 := h.gB
  have h2 := h.eg
  have hn : ∀ k, k < B → some k ≠ ev.ownBlock := fun k hk e => by have := (h.oe.lt k e.symm).1; omega
  exact ⟨h.bel.grown hg h.bel.size (fun k hk => by have := (h.oe.lt k hk).1; omega), row_past h.rg hg (hn _ h1), row_past h.rc hg (hn _ (by omega)), row_past h.re hg (hn _ (by omega))⟩
theorem JI.give {w : World} {g B : Nat} {rw' : Value → Array Value} {ty : TypeId} {cr er zr : Array Value} {W : World} {ev gv gv' : Value} {ls : List Ent} {gs hs : List Gi} (h : JI w g B rw' ty cr er zr W ev gv ls gs) (ho : W.ownsRow B 64 3 gv' hs.length (gFlat hs)) : JI w g B rw' ty cr er zr W ev gv' ls hs :=
  ⟨h.bel, h.rg, h.rc, h.re, h.rz, h.oe, h.ne, ho, h.gB, h.eg, h.sz⟩
set_option maxRecDepth 100000 in
theorem least_any (c : Con) (x : Int) (w : World) (hx : (Lit.int .u64 x).wf = true) (hc : ConOk w c) : Calls Try.prog 40 #[c.agg, .int .u64 x] w fun r w' => r = .returned (.bool (!lowV c.kind c.reserve c.step (c.es.map Ent.d) x)) ∧ Below w.heap.size w w' := by
  have HC := Lib.hid hc
  have hm : c.es.length ≤ 2513169434843 := hc.mx
  clear hc
  obtain ⟨n, k, b, d, t, wn, p, r, s, o, ea, ec, es⟩ := c
  unfold Con.agg
  simp only at *
  have HB := Lib.hid ((Below.refl w.heap.size w).alloc (Nat.le_refl _) (.cells #[.int .i64 n, .int .i64 k, .int .i64 b, .int .i64 d, .int .i64 t, .int .i64 wn, .int .u64 p, .int .u64 r, .int .u64 s, .int .i64 o, .slice ea es.length ec] 25))
  have HXX := Lib.hid (show 0 ≤ x ∧ x ≤ 18446744073709551615 by simp [Lit.wf, IntKind.min, IntKind.max, IntKind.signed, IntKind.bits] at hx; exact hx)
  generalize hds : es.map Ent.d = ds at *
  have HDS := Lib.hid hds
  clear hds hx
  go_enter Try.func40, Try.ntmps40
  by_cases h1 : k = 3
  · have HV := Lib.hid (show (!lowV k r s ds x) = decide (x > 0) by
      unfold lowV; rw [if_pos h1]
      by_cases hz : x = 0
      · subst hz; rfl
      · have := HXX.out
        rw [show (x == 0) = false by simpa using hz, decide_eq_true (show x > 0 by omega)]; rfl)
    have c1 : (k == 3) = true := by simpa using h1
    clear h1
    go_wp2
    go_ret
    exact ⟨by rw [HV.out]; rfl, HB.out⟩
  have c1 : (k == 3) = false := by simpa using h1
  by_cases h2 : x < r
  · have c2 : decide (x < r) = true := decide_eq_true h2
    have HV := Lib.hid (show (!lowV k r s ds x) = false by unfold lowV; rw [if_neg h1, if_pos h2]; rfl)
    clear h1
    go_wp2
    go_ret
    exact ⟨by rw [HV.out]; rfl, HB.out⟩
  have c2 : decide (x < r) = false := decide_eq_false h2
  have hdl : ds.length = es.length := by rw [← HDS.out, List.length_map]
  by_cases h3 : es.length ≤ 1
  · have HV := Lib.hid (show (!lowV k r s ds x) = true by unfold lowV; rw [if_neg h1, if_neg h2, if_pos (by omega)]; rfl)
    have c3 : decide ((es.length : Int) < 2) = true := by simp; omega
    clear h1 h2 hdl
    go_wp2
    go_ret
    exact ⟨by rw [HV.out]; rfl, HB.out⟩
  have hlt : es.length - 1 < es.length := by omega
  obtain ⟨ob, oo, hea, f0, f1, f2, f3, f4⟩ := (HC.out.kept HB.out).ent (es.length - 1) hlt
  have HCW := Lib.hid (HC.out.ents _ (List.getElem_mem hlt)).cw
  simp only at hea f0 f1 f2 f3 f4 HCW
  have HV := Lib.hid (show (!lowV k r s ds x) = !(decide (x < es[es.length - 1].coins) || decide (x - es[es.length - 1].coins < s)) by unfold lowV; rw [if_neg h1, if_neg h2, if_neg (by omega), hdl, ← HDS.out, dC_ent es _ hlt])
  have c3 : decide ((es.length : Int) < 2) = false := by simp; omega
  subst hea
  have i1 : (es.length : Int) - 1 < (es.length : Int) := by omega
  have i2 : (0 : Int) ≤ (es.length : Int) - 1 := by omega
  have e1 : ((es.length : Int) - 1).toNat = es.length - 1 := by omega
  clear h1 h2 h3 f0 f1 f3 f4 hdl
  generalize es[es.length - 1] = y at *
  by_cases h4 : x ≥ y.coins
  · have c4 : decide (x ≥ y.coins) = true := decide_eq_true h4
    have c4' : decide (x < y.coins) = false := decide_eq_false (by omega)
    have HX := Lib.hid (show IntKind.u64.wrap (x - y.coins) = x - y.coins by
      have h1 := HCW.out
      have h2 := HXX.out
      simp [Lit.wf, IntKind.min, IntKind.max, IntKind.signed, IntKind.bits] at h1
      rw [IntKind.wrap_u64]; omega)
    go_wp2
    go_ret
    refine ⟨?_, HB.out⟩
    rw [HV.out, c4']
    show Ending.returned (.bool (decide (IntKind.u64.wrap (x - y.coins) ≥ s))) = _
    rw [HX.out]
    congr 2
    rw [Bool.false_or]
    by_cases h5 : x - y.coins < s
    · rw [decide_eq_true h5, decide_eq_false (by omega)]; rfl
    · rw [decide_eq_false h5, decide_eq_true (by omega)]; rfl
  have c4 : decide (x ≥ y.coins) = false := decide_eq_false h4
  have c4' : decide (x < y.coins) = true := decide_eq_true (by omega)
  go_wp2
  go_ret
  exact ⟨by rw [HV.out, c4']; rfl, HB.out⟩
end Go.Proofs.Ytpejcndfplbikaa
