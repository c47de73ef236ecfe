/-
  Layer 20: the chapter's trade.
-/
import Derived.Test.YtiafhgcnjgpeaaaWm
namespace Go.Proofs.Ytiafhgcnjgpeaaa
open Go.RowKit Go.K
set_option linter.unusedVariables false
set_option linter.unusedSimpArgs false

/-- The chapter's trade, its entry in block g. -/
def givenC (g : Nat) : Con := ⟨4, 1, 1, 9, 2, 7, 10, 0, 0, 0, some ⟨g, 0, none⟩, 1, [⟨1, 3, 5, 0, none, 0, []⟩]⟩
def GRow (W : World) (g : Nat) : Prop := W.heap[g]? = some (.cells #[.int .i64 1, .int .i64 3, .int .u64 5, .int .u64 0, .slice none 0 0] 44)
theorem GRow.kept {W W' : World} {g : Nat} (h : GRow W g) (hb : Below W.heap.size W W') : GRow W' g := row_kept h hb
theorem GRow.newC {B : Nat} {W : World} {g : Nat} (h : GRow W g) (hB : B ≤ g) : NewC B W (givenC g) :=
  ⟨⟨rfl, .inr ⟨g, 1, _, rfl, hB, h, Nat.le_refl _, by unfold maxLen; decide, rfl, rfl⟩⟩, (fun h => by cases h), (fun e he => by rw [givenC, List.mem_singleton] at he; subst he; exact ⟨rfl, rfl, rfl⟩), Nat.le_refl _, rfl⟩
theorem GRow.ok {W : World} {g : Nat} (h : GRow W g) : ConOk W (givenC g) := (h.newC (Nat.le_refl g)).ok
theorem given_any (w : World) : Calls Try.prog 36 #[] w fun r w' => ∃ g, r = .returned (givenC g).agg ∧ GRow w' g ∧ w.heap.size ≤ g ∧ Below w.heap.size w w' := by
  go_enter Try.func36, Try.ntmps36
  go_wp2
  exact bodyPost_ret (results_cell_row Try.results36 _ _ w.heap.size 25 _ _ _ rfl (alloc_old (alloc_at rfl)) Try.underlying25 rfl sz25) rfl ⟨w.heap.size + 1, rfl, alloc_at (by simp), by omega, ((Below.refl w.heap.size w).alloc (Nat.le_refl _) _).alloc (by simp) _⟩
def entD : Ent := ⟨2, 7, 10, 0, none, 0, []⟩
theorem entD_ok (W : World) : EntOk W entD := ⟨Sl.nil _ _, Nat.le_refl _, Nat.zero_le _, fun _ => ⟨rfl, rfl⟩⟩
theorem given_terms (g : Nat) : termsV (givenC g) = 0 := by simp [givenC, termsV, termsE, itemP, maxS, bareP]
theorem given_join (g : Nat) : joinV (givenC g) entD = 0 := by unfold joinV; rw [given_terms]; simp [givenC, entD, bareP]
theorem given_joinG (g : Nat) : joinG (givenC g) entD = [⟨2, 3, 0⟩, ⟨2, 0, 5⟩, ⟨1, 7, 0⟩, ⟨1, 0, 10⟩] := by unfold joinG; rw [if_pos (given_join g)]; rfl
end Go.Proofs.Ytiafhgcnjgpeaaa
