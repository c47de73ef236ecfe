/-
  Layer 21: what goes out is what is held, in plain terms.
-/
import Derived.Test.YtpejcndfplbikaaOa
namespace Go.Proofs.Ytpejcndfplbikaa
open Go.RowKit Go.K Go.Maps
set_option linter.unusedVariables false
set_option linter.unusedSimpArgs false
def dIs (l : List DE) : List Int := l.map fun x => x.2.1
def dCs (l : List DE) : List Int := l.map fun x => x.2.2.1
def gIs (l : List Gi) : List Int := l.map Gi.item
def gCs (l : List Gi) : List Int := l.map Gi.coins
theorem ent_items (es : List Ent) : es.map Ent.item = dIs (es.map Ent.d) := by unfold dIs; rw [List.map_map]; rfl
theorem ent_coins (es : List Ent) : es.map Ent.coins = dCs (es.map Ent.d) := by unfold dCs; rw [List.map_map]; rfl
theorem nzI_append (a b : List Int) : nzI (a ++ b) = nzI a ++ nzI b := by unfold nzI; exact List.filter_append ..
theorem gIs_append (a b : List Gi) : gIs (a ++ b) = gIs a ++ gIs b := by unfold gIs; simp
theorem gCs_append (a b : List Gi) : gCs (a ++ b) = gCs a ++ gCs b := by unfold gCs; simp
theorem give_items (t i c : Int) : nzI (gIs (giveL t i c)) = nzI [i] := by
  unfold giveL
  by_cases h1 : i = 0
  · by_cases h2 : c = 0 <;> simp [h1, h2, gIs, nzI]
  · by_cases h2 : c = 0 <;> simp [h1, h2, gIs, nzI]
theorem give_sum (t i c : Int) : (gCs (giveL t i c)).sum = c := by
  unfold giveL
  by_cases h1 : i = 0
  · by_cases h2 : c = 0 <;> simp [h1, h2, gCs]
  · by_cases h2 : c = 0 <;> simp [h1, h2, gCs]
theorem nzI_zero : nzI [0] = [] := rfl
theorem dIs_succ (l : List DE) (k : Nat) (h : k < l.length) : dIs (l.take (k + 1)) = dIs (l.take k) ++ [dI l k] := by
  rw [List.take_succ_eq_append_getElem h]
  unfold dIs dI
  rw [List.map_append]
  congr 1
  simp [List.getD_eq_getElem?_getD, List.getElem?_eq_getElem h]
theorem dCs_succ (l : List DE) (k : Nat) (h : k < l.length) : dCs (l.take (k + 1)) = dCs (l.take k) ++ [dC l k] := by
  rw [List.take_succ_eq_append_getElem h]
  unfold dCs dC
  rw [List.map_append]
  congr 1
  simp [List.getD_eq_getElem?_getD, List.getElem?_eq_getElem h]
theorem back_items (l : List DE) : ∀ n, n ≤ l.length → nzI (gIs (backP l n)) = nzI (dIs (l.take n)) ∧ (gCs (backP l n)).sum = (dCs (l.take n)).sum
  | 0, _ => ⟨rfl, rfl⟩
  | n + 1, h => by
    obtain ⟨h1, h2⟩ := back_items l n (by omega)
    rw [backP, gIs_append, gCs_append, nzI_append, List.sum_append, h1, h2, give_items, give_sum, dIs_succ l n (by omega), dCs_succ l n (by omega), nzI_append, List.sum_append]
    exact ⟨rfl, by simp⟩
theorem end_items (l : List DE) (w : Nat) (p : Int) (hw : 1 ≤ w) (hp : IntKind.u64.wrap (dC l w - p) = dC l w - p) : ∀ n, n ≤ l.length → nzI (gIs (endP l w p n)) = nzI (dIs (l.take n)) ∧ (gCs (endP l w p n)).sum = (dCs (l.take n)).sum
  | 0, _ => ⟨rfl, rfl⟩
  | n + 1, h => by
    obtain ⟨h1, h2⟩ := end_items l w p hw hp n (by omega)
    rw [endP, gIs_append, gCs_append, nzI_append, List.sum_append, h1, h2, dIs_succ l n (by omega), dCs_succ l n (by omega), nzI_append, List.sum_append]
    have e : nzI (gIs (endS l w p n)) = nzI [dI l n] ∧ (gCs (endS l w p n)).sum = dC l n := by
      unfold endS
      split
      · rename_i h0
        subst h0
        rw [gIs_append, gCs_append, nzI_append, List.sum_append, give_items, give_items, give_sum, give_sum, nzI_zero]
        simp
      · split
        · rename_i h0
          subst h0
          rw [gIs_append, gCs_append, nzI_append, List.sum_append, gIs_append, gCs_append, nzI_append, List.sum_append, give_items, give_items, give_items, give_sum, give_sum, give_sum, nzI_zero, hp]
          simp
          omega
        · rw [give_items, give_sum]; exact ⟨rfl, rfl⟩
    rw [e.1, e.2]
    simp
/-- What entries hold fits. -/
def WfD (l : List DE) : Prop := ∀ x ∈ l, (Lit.int .i64 x.2.1).wf = true ∧ (Lit.int .u64 x.2.2.1).wf = true
theorem WfD.at' {l : List DE} (h : WfD l) (k : Nat) : (Lit.int .i64 (dI l k)).wf = true ∧ (Lit.int .u64 (dC l k)).wf = true := by
  unfold dI dC
  rw [List.getD_eq_getElem?_getD]
  by_cases hk : k < l.length
  · rw [List.getElem?_eq_getElem hk]; exact h _ (List.getElem_mem hk)
  · rw [List.getElem?_eq_none (by omega)]; exact ⟨by decide, by decide⟩
/-- Who wins pays no more than its bid. -/
theorem winV_pays (k r : Int) (l : List DE) (hl : WfD l) (hr : 0 ≤ r) (hw : (winV k r l).1 ≠ 0) : 0 ≤ (winV k r l).2 ∧ (winV k r l).2 ≤ dC l (winV k r l).1 := by
  unfold winV at *
  split at hw
  · rename_i h1
    rw [if_pos h1]
    split at hw
    · rename_i h2
      rw [if_pos h2]
      have := u64_range (hl.at' (l.length - 1)).2
      exact ⟨this.1, Int.le_refl _⟩
    · rename_i h2
      rw [if_neg h2]
      simp only at hw ⊢
      rcases bst_best r (dC l) l.length with ⟨h3, _⟩ | ⟨h3, h4, h5, h6⟩
      · exact absurd h3 hw
      · exact ⟨Int.le_trans hr (pay_ge _ _ _ _).1, pay_le _ _ _ _ _ h5 (fun i h7 h8 _ => (h6 i h7 h8).1)⟩
  · exact absurd rfl hw
theorem winV_wrap (k r : Int) (l : List DE) (hl : WfD l) (hr : 0 ≤ r) (hw : (winV k r l).1 ≠ 0) : IntKind.u64.wrap (dC l (winV k r l).1 - (winV k r l).2) = dC l (winV k r l).1 - (winV k r l).2 := by
  obtain ⟨h1, h2⟩ := winV_pays k r l hl hr hw
  have h3 := u64_range (hl.at' (winV k r l).1).2
  rw [IntKind.wrap_u64]
  omega
theorem endL_items (k r : Int) (l : List DE) (hl : WfD l) (hr : 0 ≤ r) : nzI (gIs (endL k r l)) = nzI (dIs l) ∧ (gCs (endL k r l)).sum = (dCs l).sum := by
  unfold endL
  split
  · have h := back_items l l.length (Nat.le_refl _)
    rwa [List.take_length] at h
  · rename_i hw
    have h := end_items l (winV k r l).1 (winV k r l).2 (by omega) (winV_wrap k r l hl hr hw) l.length (Nat.le_refl _)
    rwa [List.take_length] at h
def WfG (l : List Gi) : Prop := ∀ g ∈ l, (Lit.int .i64 g.item).wf = true ∧ (Lit.int .u64 g.coins).wf = true
theorem WfG.append {a b : List Gi} (h : WfG a) (k : WfG b) : WfG (a ++ b) := fun g hg => (List.mem_append.1 hg).elim (h g) (k g)
theorem give_wf (t : Int) {i c : Int} (hi : (Lit.int .i64 i).wf = true) (hc : (Lit.int .u64 c).wf = true) : WfG (giveL t i c) := by
  intro g hg
  unfold giveL at hg
  rcases List.mem_append.1 hg with h | h
  · split at h
    · cases h
    · rw [List.mem_singleton] at h; subst h; exact ⟨hi, (by show (Lit.int .u64 0).wf = true; decide)⟩
  · split at h
    · cases h
    · rw [List.mem_singleton] at h; subst h; exact ⟨(by show (Lit.int .i64 0).wf = true; decide), hc⟩
theorem back_wf {l : List DE} (hl : WfD l) : ∀ n, WfG (backP l n)
  | 0 => fun g hg => by cases hg
  | n + 1 => by
    rw [backP]
    exact (back_wf hl n).append (give_wf _ (hl.at' n).1 (hl.at' n).2)
theorem wf_small {c m : Int} (h0 : 0 ≤ c) (h1 : c ≤ m) (h : (Lit.int .u64 m).wf = true) : (Lit.int .u64 c).wf = true := by
  have := u64_range h
  simp [Lit.wf, IntKind.min, IntKind.max, IntKind.signed, IntKind.bits]
  omega
theorem endL_wf (k r : Int) (l : List DE) (hl : WfD l) (hr : 0 ≤ r) : WfG (endL k r l) := by
  unfold endL
  split
  · exact back_wf hl _
  · rename_i hw
    obtain ⟨p1, p2⟩ := winV_pays k r l hl hr hw
    have p3 := winV_wrap k r l hl hr hw
    generalize (winV k r l).1 = w at *
    generalize (winV k r l).2 = p at *
    have hz : (Lit.int .i64 0).wf = true := by decide
    have hz2 : (Lit.int .u64 0).wf = true := by decide
    have : ∀ n, WfG (endP l w p n) := by
      intro n
      induction n with
      | zero => intro g hg; cases hg
      | succ n ih =>
        rw [endP]
        refine ih.append ?_
        unfold endS
        split
        · exact (give_wf _ (hl.at' 0).1 hz2).append (give_wf _ hz (hl.at' 0).2)
        · split
          · refine ((give_wf _ (hl.at' w).1 hz2).append (give_wf _ hz (wf_small p1 p2 (hl.at' w).2))).append (give_wf _ hz ?_)
            rw [p3]
            exact wf_small (by omega) (by omega) (hl.at' w).2
          · exact give_wf _ (hl.at' n).1 (hl.at' n).2
    exact this _
/-- What a join gives back and what it leaves: all that was held, and the new entry. -/
theorem join_items (c : Con) (e : Ent) (hj : c.joinV' e = 0) :
    (nzI (gIs (joinGs c e)) ++ nzI (dIs (joinDs c e).2.2)).Perm (nzI (dIs (c.es.map Ent.d)) ++ nzI (dIs [e.d])) ∧ (gCs (joinGs c e)).sum + (dCs (joinDs c e).2.2).sum = (dCs (c.es.map Ent.d)).sum + (dCs [e.d]).sum := by
  unfold joinGs joinDs
  rw [if_pos hj, if_pos hj]
  unfold joinG joinD stays
  simp only
  generalize c.es.map Ent.d = l
  have hD : ∀ (a b : List DE), dIs (a ++ b) = dIs a ++ dIs b := fun a b => by simp [dIs]
  have hC : ∀ (a b : List DE), dCs (a ++ b) = dCs a ++ dCs b := fun a b => by simp [dCs]
  split
  · rename_i h
    have hl : l.length - 1 + 1 = l.length := by omega
    have e1 := dIs_succ l (l.length - 1) (by omega)
    have e2 := dCs_succ l (l.length - 1) (by omega)
    rw [hl, List.take_length] at e1 e2
    rw [give_items, give_sum, hD, hC, nzI_append, List.sum_append, e1, e2, nzI_append, List.sum_append]
    constructor
    · rw [← List.append_assoc]
      exact List.Perm.append_right _ List.perm_append_comm
    · simp; omega
  · rw [List.take_length, hD, hC, nzI_append, List.sum_append]
    exact ⟨List.Perm.refl _, by simp [gCs]⟩
theorem joinGs_wf (c : Con) (e : Ent) (hl : WfD (c.es.map Ent.d)) : WfG (joinGs c e) := by
  unfold joinGs joinG
  split
  · split
    · exact give_wf _ (hl.at' _).1 (hl.at' _).2
    · intro g hg; cases hg
  · intro g hg; cases hg
theorem joinGs_full (c : Con) (e : Ent) : ∀ g ∈ joinGs c e, FullG g := by
  unfold joinGs joinG
  split
  · split
    · exact giveL_full _ _ _
    · intro g hg; cases hg
  · intro g hg; cases hg
theorem wfD_of {W : World} {es : List Ent} (h : ∀ e ∈ es, EntOk W e) : WfD (es.map Ent.d) := by
  intro x hx
  obtain ⟨e, he, rfl⟩ := List.mem_map.1 hx
  exact ⟨(h e he).iw, (h e he).cw⟩
/-- The reserve of a contract that came in fits. -/
theorem con_reserve {H : Type} {enc : TypeId × Value → H} {W : World} {c : Con} {d : DataW H} {p : List MemPlace} (h : DataW.Trod enc Try.prog W 0 (fun _ => true) true 25 c.agg d p) : (Lit.int .u64 c.reserve).wf = true := by
  obtain ⟨fuel, h⟩ := h
  obtain ⟨xs, n', _, hxx, hlen, hxl, hfl⟩ := DataW.trod_struct Try.underlying25 h
  have s22 : Try.prog.cellsOf 22 = 1 := by kernel_rfl
  have hf7 : DataW.trod enc Try.prog W 0 (fun _ => true) true n' 22 ((c.agg.cells.toList.drop 7).take (Try.prog.cellsOf 22)) = xs[7]? := hfl 7 _ rfl
  rw [s22] at hf7
  have hxl' : xs.length = 11 := hxl
  have e7 : xs[7]? = some (xs[7]'(by omega)) := List.getElem?_eq_getElem (by omega)
  rw [e7] at hf7
  have hf7' : DataW.trod enc Try.prog W 0 (fun _ => true) true n' 22 [.int .u64 c.reserve] = some (xs[7]'(by omega)) := hf7
  obtain ⟨a, he, hw⟩ := trod_int_inv Try.underlying22 hf7'
  injection he with _ he
  rw [he]; exact hw
end Go.Proofs.Ytpejcndfplbikaa
