/-
  Layer 20: Join, the program's (printed by gen_join.py).
-/
import Derived.Test.YtiafhgcnjgpeaaaWj
import Derived.Test.YtiafhgcnjgpeaaaYd
namespace Go.Proofs.Ytiafhgcnjgpeaaa
open Go.RowKit Go.K
set_option linter.unusedVariables false
set_option linter.unusedSimpArgs false

/-- An entry in a variable. -/
def EBox (W : World) (g : Nat) (e : Ent) : Prop := W.heap[g]? = some (.cells #[.int .i64 e.acc, .int .i64 e.item, .int .u64 e.coins, .int .u64 e.price, .slice e.wa e.ws.length e.wc] 44)
theorem EBox.kept {W W' : World} {g : Nat} {e : Ent} (h : EBox W g e) (hb : Below W.heap.size W W') : EBox W' g e := row_kept h hb
theorem EBox.alloc {W : World} {g : Nat} {e : Ent} (h : EBox W g e) (X : Obj) : EBox (W.alloc X) g e := alloc_old h
theorem EBox.cells {W : World} {g : Nat} {e : Ent} (h : EBox W g e) : W.cell? ⟨g, 0, none⟩ = some (.int .i64 e.acc) ∧ W.cell? ⟨g, 1, none⟩ = some (.int .i64 e.item) ∧ W.cell? ⟨g, 2, none⟩ = some (.int .u64 e.coins) ∧
    W.cell? ⟨g, 3, none⟩ = some (.int .u64 e.price) ∧ W.cell? ⟨g, 4, none⟩ = some (.slice e.wa e.ws.length e.wc) := cells5 h
/-- The number with which an entry is refused, or 0. -/
def joinV (c : Con) (e : Ent) : Int :=
  if termsV c ≠ 0 then termsV c
  else if e.acc = c.by' then 234
  else if e.acc ≠ c.to ∨ bareP e = false ∨ e.item ≠ c.want ∨ e.coins ≠ c.price then 200 else 0
def Con.less (c : Con) : Con := { c with ea := none, ec := 0, es := [] }
def joinC (c : Con) (e : Ent) : Con := if joinV c e = 0 then c.less else conZ
def joinG (c : Con) (e : Ent) : List Gi := if joinV c e = 0 then giveV c.to c.es ++ gV e c.by' else []
theorem joinV_a {c : Con} {e : Ent} (h : termsV c ≠ 0) : joinV c e = termsV c := if_pos h
theorem joinV_b {c : Con} {e : Ent} (h : termsV c = 0) (h1 : e.acc = c.by') : joinV c e = 234 := by unfold joinV; rw [if_neg (by simp [h]), if_pos h1]
theorem joinV_c {c : Con} {e : Ent} (h : termsV c = 0) (h1 : e.acc ≠ c.by') (h2 : e.acc ≠ c.to ∨ bareP e = false ∨ e.item ≠ c.want ∨ e.coins ≠ c.price) : joinV c e = 200 := by unfold joinV; rw [if_neg (by simp [h]), if_neg h1, if_pos h2]
theorem joinV_d {c : Con} {e : Ent} (h : termsV c = 0) (h1 : e.acc ≠ c.by') (h2 : ¬ (e.acc ≠ c.to ∨ bareP e = false ∨ e.item ≠ c.want ∨ e.coins ≠ c.price)) : joinV c e = 0 := by unfold joinV; rw [if_neg (by simp [h]), if_neg h1, if_neg h2]
theorem joinC_no {c : Con} {e : Ent} (h : joinV c e ≠ 0) : joinC c e = conZ := if_neg h
theorem joinG_no {c : Con} {e : Ent} (h : joinV c e ≠ 0) : joinG c e = [] := if_neg h
theorem joinG_le (c : Con) (e : Ent) : (joinG c e).length ≤ 4 := by
  unfold joinG
  split
  · rename_i h
    have ht : termsV c = 0 := by
      by_cases h0 : termsV c = 0
      · exact h0
      · rw [joinV_a h0] at h; exact h
    obtain ⟨x, hx⟩ := terms_one ht
    rw [List.length_append, hx]
    have h1 := giveV_length_le c.to [x]
    have h2 := gV_length_le e c.by'
    simp only [List.length_singleton] at h1
    omega
  · simp

/-- The answer of Join. -/
def JoinAns (c : Con) (e : Ent) (w : World) (r : Ending) (w' : World) : Prop := ∃ ad cap, r = .returned (.tuple #[(joinC c e).agg, .slice ad (joinG c e).length (joinG c e).length, .bool (decide (joinV c e = 0)), .int .i64 (joinV c e)]) ∧
  w'.ownsRow w.heap.size 56 3 (.slice ad (joinG c e).length cap) (joinG c e).length (gFlat (joinG c e)) ∧ (ad = none → (joinG c e).length = 0 ∧ cap = 0) ∧ Below w.heap.size w w'
theorem join_no {c : Con} {e : Ent} {w w' : World} {r : Ending} (v : Int) (hv : joinV c e = v) (h : v ≠ 0) (hr : r = .returned (.tuple #[conZ.agg, .slice none 0 0, .bool false, .int .i64 v])) (hb : Below w.heap.size w w') : JoinAns c e w r w' := by
  subst hv
  refine ⟨none, 0, ?_, ?_, fun _ => ?_, hb⟩
  · rw [hr, joinC_no h, joinG_no h, decide_eq_false h]; rfl
  · rw [joinG_no h]; exact World.ownsRow_nil _ _ _ _
  · rw [joinG_no h]; exact ⟨rfl, rfl⟩

end Go.Proofs.Ytiafhgcnjgpeaaa
