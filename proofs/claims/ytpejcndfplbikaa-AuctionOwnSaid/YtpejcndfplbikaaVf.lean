/-
  Layer 21: a hall: how many bids, is a bid too little, who wins.
-/
import Derived.Test.YtpejcndfplbikaaVe
import Derived.Test.YtpejcndfplbikaaPa
namespace Go.Proofs.Ytpejcndfplbikaa
open Go.RowKit Go.K
set_option linter.unusedVariables false
set_option linter.unusedSimpArgs false
theorem Hall.kept {W W' : World} {g gc : Nat} {c : Con} (h : Hall W g gc c) (hb : Below W.heap.size W W') : Hall W' g gc c := ⟨row_kept h.row hb, row_kept h.cell hb⟩
theorem Hall.at' {W : World} {g gc : Nat} {c : Con} (h : Hall W g gc c) : W.cell? ⟨gc, 0, none⟩ = some (.pointer (some ⟨g, 0, none⟩)) := by rw [cell_of_row _ _ _ _ _ _ h.cell]; rfl
theorem Hall.kind {W : World} {g gc : Nat} {c : Con} (h : Hall W g gc c) : W.cell? ⟨g, 1, none⟩ = some (.int .i64 c.kind) := by rw [cell_of_row _ _ _ _ _ _ h.row]; rfl
theorem Hall.by' {W : World} {g gc : Nat} {c : Con} (h : Hall W g gc c) : W.cell? ⟨g, 2, none⟩ = some (.int .i64 c.by') := by rw [cell_of_row _ _ _ _ _ _ h.row]; rfl
theorem Hall.to' {W : World} {g gc : Nat} {c : Con} (h : Hall W g gc c) : W.cell? ⟨g, 4, none⟩ = some (.int .i64 c.to') := by rw [cell_of_row _ _ _ _ _ _ h.row]; rfl
theorem Hall.want {W : World} {g gc : Nat} {c : Con} (h : Hall W g gc c) : W.cell? ⟨g, 5, none⟩ = some (.int .i64 c.want) := by rw [cell_of_row _ _ _ _ _ _ h.row]; rfl
theorem Hall.price {W : World} {g gc : Nat} {c : Con} (h : Hall W g gc c) : W.cell? ⟨g, 6, none⟩ = some (.int .u64 c.price) := by rw [cell_of_row _ _ _ _ _ _ h.row]; rfl
theorem Hall.reserve {W : World} {g gc : Nat} {c : Con} (h : Hall W g gc c) : W.cell? ⟨g, 7, none⟩ = some (.int .u64 c.reserve) := by rw [cell_of_row _ _ _ _ _ _ h.row]; rfl
theorem Hall.step {W : World} {g gc : Nat} {c : Con} (h : Hall W g gc c) : W.cell? ⟨g, 8, none⟩ = some (.int .u64 c.step) := by rw [cell_of_row _ _ _ _ _ _ h.row]; rfl
theorem Hall.of' {W : World} {g gc : Nat} {c : Con} (h : Hall W g gc c) : W.cell? ⟨g, 9, none⟩ = some (.int .i64 c.of') := by rw [cell_of_row _ _ _ _ _ _ h.row]; rfl
theorem Hall.es {W : World} {g gc : Nat} {c : Con} (h : Hall W g gc c) : W.cell? ⟨g, 10, none⟩ = some (.slice c.ea c.es.length c.ec) := by rw [cell_of_row _ _ _ _ _ _ h.row]; rfl
theorem Hall.wins {W : World} {g gc : Nat} {c : Con} (h : Hall W g gc c) : W.cell? ⟨g, 11, none⟩ = some (winsV c.kind gc) := by rw [cell_of_row _ _ _ _ _ _ h.row]; rfl
theorem bids_any (c : Con) (g gc : Nat) (w : World) (hm : c.es.length ≤ 2513169434843) (h : Hall w g gc c) : Calls Try.prog 43 #[.pointer (some ⟨g, 0, none⟩)] w fun r w' => r = .returned (.int .i64 ((c.es.length - 1 : Nat) : Int)) ∧ w = w' := by
  have z := h.es
  clear h
  go_enter Try.func43, Try.ntmps43
  go_wp2
  · go_ret
    exact ⟨by show Ending.returned (.int .i64 0) = _; rw [show c.es.length - 1 = 0 by omega]; rfl, rfl⟩
  · go_ret
    exact ⟨by show Ending.returned (.int .i64 ((c.es.length : Int) - 1)) = _; rw [show ((c.es.length : Int) - 1) = ((c.es.length - 1 : Nat) : Int) by omega], rfl⟩
theorem low_any (c : Con) (g gc : Nat) (x : Int) (w : World) (hx : (Lit.int .u64 x).wf = true) (hc : ConOk w c) (h : Hall w g gc c) : Calls Try.prog 35 #[.pointer (some ⟨g, 0, none⟩), .int .u64 x] w fun r w' => r = .returned (.bool (lowV c.kind c.reserve c.step (c.es.map Ent.d) x)) ∧ Qt w w' := by
  have HC := Lib.hid hc
  have hm : c.es.length ≤ 2513169434843 := hc.mx
  have z1 := h.kind
  have z7 := h.reserve
  have z8 := h.step
  have z10 := h.es
  have HK := Lib.hid (bids_any c g gc w hm h)
  clear h hc
  obtain ⟨n, k, b, d, t, wn, p, r, s, o, ea, ec, es⟩ := c
  simp only at *
  go_enter Try.func35, Try.ntmps35
  by_cases h1 : k = 3
  · subst h1
    have HV := Lib.hid (show lowV 3 r s (es.map Ent.d) x = (x == 0) by unfold lowV; rw [if_pos rfl])
    go_wp2
    go_ret
    exact ⟨by rw [HV.out]; rfl, Qt.refl _⟩
  have c1 : (k == 3) = false := by simpa using h1
  by_cases h2 : x < r
  · have c2 : decide (x < r) = true := decide_eq_true h2
    have HV := Lib.hid (show lowV k r s (es.map Ent.d) x = true by unfold lowV; rw [if_neg h1, if_pos h2])
    clear h1
    go_wp2
    go_ret
    exact ⟨by rw [HV.out]; rfl, Qt.refl _⟩
  have c2 : decide (x < r) = false := decide_eq_false h2
  by_cases h3 : es.length ≤ 1
  · have HV := Lib.hid (show lowV k r s (es.map Ent.d) x = false by unfold lowV; rw [if_neg h1, if_neg h2, if_pos (by simpa using h3)])
    have c3 : (((es.length - 1 : Nat) : Int) == 0) = true := by simp; omega
    clear h1 h2
    go_wp2_with fail
    refine HK.out.mono ?_
    rintro r w1 ⟨rfl, rfl⟩
    clear HK
    go_wp2
    go_ret
    exact ⟨by rw [HV.out]; rfl, Qt.refl _⟩
  have hlt : es.length - 1 < es.length := by omega
  have HV := Lib.hid (show lowV k r s (es.map Ent.d) x = (decide (x < es[es.length - 1].coins) || decide (x - es[es.length - 1].coins < s)) by unfold lowV; rw [if_neg h1, if_neg h2, if_neg (by simpa using h3), List.length_map, dC_ent es _ hlt])
  have c3 : (((es.length - 1 : Nat) : Int) == 0) = false := by simp; omega
  obtain ⟨ob, oo, hea, f0, f1, f2, f3, f4⟩ := HC.out.ent (es.length - 1) hlt
  have HCW := Lib.hid (HC.out.ents _ (List.getElem_mem hlt)).cw
  simp only at hea f0 f1 f2 f3 f4 HCW
  subst hea
  have i1 : (es.length : Int) - 1 < (es.length : Int) := by omega
  have i2 : (0 : Int) ≤ (es.length : Int) - 1 := by omega
  have e1 : ((es.length : Int) - 1).toNat = es.length - 1 := by omega
  clear h1 h2 h3 f0 f1 f3 f4
  generalize es[es.length - 1] = y at *
  by_cases h4 : x < y.coins
  · have c4 : decide (x < y.coins) = true := decide_eq_true h4
    go_wp2_with fail
    refine HK.out.mono ?_
    rintro r w1 ⟨rfl, rfl⟩
    clear HK
    go_wp2
    go_quiet (fail)
    go_wp2
    go_ret
    exact ⟨by rw [HV.out, c4]; rfl, ⟨_, rfl⟩⟩
  have c4 : decide (x < y.coins) = false := decide_eq_false h4
  have HX := Lib.hid (show IntKind.u64.wrap (x - y.coins) = x - y.coins by
    have h1 := HCW.out
    simp [Lit.wf, IntKind.min, IntKind.max, IntKind.signed, IntKind.bits] at h1 hx
    rw [IntKind.wrap_u64]; omega)
  go_wp2_with fail
  refine HK.out.mono ?_
  rintro r w1 ⟨rfl, rfl⟩
  clear HK
  go_wp2
  go_quiet (fail)
  go_wp2
  go_ret
  exact ⟨by rw [HV.out, c4]; show Ending.returned (.bool (decide (IntKind.u64.wrap (x - y.coins) < s))) = _; rw [HX.out]; rfl, ⟨_, rfl⟩⟩
end Go.Proofs.Ytpejcndfplbikaa
