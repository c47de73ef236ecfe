/-
  Layer 21: lists of numbers, entries, contracts, gifts as values (turned from chapter 22's texts).
-/
import Derived.Test.YtpejcndfplbikaaRows
import Derived.Test.YtpejcndfplbikaaGen
import Derived.BigQuiet
import Derived.Deep.QuietTactic
namespace Go.Proofs.Ytpejcndfplbikaa
open Go.ChangeShapes Go.WideShapes Go.ChangeAt Go.RowKit Go.K
set_option linter.unusedVariables false
set_option linter.unusedSimpArgs false

def vI (l : List Int) : List Value := l.map fun c => .int .i64 c
theorem vI_length (l : List Int) : (vI l).length = l.length := by simp [vI]
theorem vI_get (l : List Int) (i : Nat) (h : i < l.length) : (vI l)[i]? = some (.int .i64 l[i]) := by
  simp [vI, List.getElem?_eq_getElem h]
theorem vI_append (l m : List Int) : vI (l ++ m) = vI l ++ vI m := by simp [vI]
theorem vI_ne {l : List Int} {k : Nat} (h : k < l.length) : vI l ≠ [] := fun e => by
  have := vI_length l
  rw [e] at this
  simp at this
  omega
theorem oneCell_vI (l : List Int) : ∀ u ∈ vI l, u.oneCell' = true := by
  intro u hu
  obtain ⟨c, _, rfl⟩ := List.mem_map.1 hu
  rfl
/-- The cell of number i. -/
theorem int_at {W : World} {a : Option Addr} {l : List Int} (h : Sl W a (vI l)) (i : Nat) (hi : i < l.length) : ∃ b off, a = some ⟨b, off, none⟩ ∧ W.cell? ⟨b, off + i, none⟩ = some (.int .i64 l[i]) := by
  obtain ⟨b, off, he, hc⟩ := h (vI_ne hi)
  exact ⟨b, off, he, by rw [hc i (by rw [vI_length]; exact hi), vI_get l i hi]⟩
/-- Numbers of 64 bits. -/
def Wf (l : List Int) : Prop := ∀ x ∈ l, (Lit.int .i64 x).wf = true
theorem infoI : (Try.prog.info? 3).map (fun i => (i.zero, i.size, i.bytes)) = some (some (.int .i64 0), 1, 8) := by kernel_rfl
theorem sz3 : (Try.prog.info? 3).map (·.size) = some 1 := by kernel_rfl
theorem list_of_all {α : Type} {P : Nat → α → Prop} : ∀ (n : Nat), (∀ i, i < n → ∃ a, P i a) → ∃ l : List α, l.length = n ∧ ∀ i (h : i < l.length), P i l[i]
  | 0, _ => ⟨[], rfl, fun i h => by cases h⟩
  | n + 1, h => by
    obtain ⟨l, hl, hp⟩ := list_of_all n (fun i hi => h i (by omega))
    obtain ⟨a, ha⟩ := h n (by omega)
    refine ⟨l ++ [a], by simp [hl], fun i hi => ?_⟩
    by_cases h1 : i < l.length
    · rw [List.getElem_append_left h1]; exact hp i h1
    · have : i = l.length := by simp at hi; omega
      subst this
      rw [List.getElem_append_right (Nat.le_refl _)]
      simp only [Nat.sub_self, List.getElem_cons_zero]
      rw [hl]; exact ha
end Go.Proofs.Ytpejcndfplbikaa
