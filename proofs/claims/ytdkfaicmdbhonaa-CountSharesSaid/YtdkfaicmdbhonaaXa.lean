/-
  Layer 1: numbers in blocks of their own, as they come up in a region that draws its order.
-/
import Derived.Test.YtdkfaicmdbhonaaWu
import Derived.Test.YtdkfaicmdbhonaaWf
import Derived.Test.YtdkfaicmdbhonaaGen
namespace Go.Proofs.Ytdkfaicmdbhonaa
open Go.RowKit Go.K
set_option linter.unusedVariables false
set_option linter.unusedSimpArgs false
/-- What lies in a block: a number that is not told, or a number. -/
def Lies (W : World) (g : Nat) : Option Int → Prop
  | none => IsInt W g
  | some z => IntAt W g z
theorem Lies.isInt {W : World} {g : Nat} {z : Option Int} (h : Lies W g z) : IsInt W g := by
  cases z with
  | none => exact h
  | some z => exact IntAt.isInt h
theorem Lies.kept {W W' : World} {g : Nat} {z : Option Int} (h : Lies W g z) (hb : Below W.heap.size W W') : Lies W' g z := by
  cases z with
  | none => exact IsInt.kept h hb
  | some z => exact IntAt.kept h hb
theorem Lies.away {W W' : World} {g r : Nat} {z : Option Int} (h : Lies W g z) (hr : IsInt W r) (hg : W.grownBy W' (some r)) (hne : r ≠ g) : Lies W' g z := by
  cases z with
  | none => exact IsInt.away h hg hne
  | some z => exact IntAt.away h hr hg hne
theorem isInt_lt {W : World} {g : Nat} (h : IsInt W g) : g < W.heap.size := by
  obtain ⟨_, _, _, _, h⟩ := h; exact lt_row h
/-- Numbers that have come up since w0, each in a block of its own. -/
structure St (w0 w : World) (M : List (Nat × Option Int)) : Prop where
  bel : Below w0.heap.size w0 w
  nd : (M.map (·.1)).Nodup
  lo : ∀ q ∈ M, w0.heap.size ≤ q.1
  at' : ∀ q ∈ M, Lies w q.1 q.2
theorem St.nil (w : World) : St w w [] := ⟨Below.refl _ _, List.nodup_nil, (fun q hq => absurd hq List.not_mem_nil), (fun q hq => absurd hq List.not_mem_nil)⟩
theorem St.drew {w0 w : World} {M : List (Nat × Option Int)} (h : St w0 w M) : St w0 w.drew M :=
  have hb : Below w.heap.size w w.drew := below_drawn (Below.refl _ _) _
  ⟨h.bel.trans (hb.mono h.bel.size), h.nd, h.lo, fun q hq => (h.at' q hq).kept hb⟩
theorem St.new {w0 w w' : World} {M : List (Nat × Option Int)} {z : Option Int} (h : St w0 w M) (hz : Lies w' w.heap.size z) (hb : Below w.heap.size w w') : St w0 w' ((w.heap.size, z) :: M) := by
  refine ⟨h.bel.trans (hb.mono h.bel.size), ?_, ?_, ?_⟩
  · refine List.nodup_cons.2 ⟨fun hm => ?_, h.nd⟩
    obtain ⟨q, hq, e⟩ := List.mem_map.1 hm
    have := isInt_lt (h.at' q hq).isInt
    have e : q.1 = w.heap.size := e
    omega
  · intro q hq
    rcases List.mem_cons.1 hq with e | e
    · subst e; exact h.bel.size
    · exact h.lo q e
  · intro q hq
    rcases List.mem_cons.1 hq with e | e
    · subst e; exact hz
    · exact (h.at' q e).kept hb
theorem St.alloc {w0 w : World} {M : List (Nat × Option Int)} (h : St w0 w M) : St w0 (w.alloc (.cells #[.bool false, .slice none 0 0] 42)) ((w.heap.size, none) :: M) :=
  h.new (z := none) (isInt_new w) ((Below.refl _ _).alloc (Nat.le_refl _) _)
theorem St.int {w0 w w' : World} {M : List (Nat × Option Int)} {z : Int} (h : St w0 w M) (hz : IntAt w' w.heap.size z) (hb : Below w.heap.size w w') : St w0 w' ((w.heap.size, some z) :: M) := h.new (z := some z) hz hb
/-- A block is written anew. -/
theorem St.set {w0 w w' : World} {A B : List (Nat × Option Int)} {g : Nat} {y z : Option Int} (h : St w0 w (A ++ (g, y) :: B)) (hz : Lies w' g z) (hg : w.grownBy w' (some g)) : St w0 w' (A ++ (g, z) :: B) := by
  have hi : IsInt w g := (h.at' (g, y) (by simp)).isInt
  have hnd := h.nd
  rw [List.map_append, List.map_cons] at hnd
  have hga : g ∉ A.map (·.1) := fun hm => by
    have := (List.nodup_append.1 hnd).2.2 g hm g (List.mem_cons_self ..)
    exact this rfl
  have hgb : g ∉ B.map (·.1) := (List.nodup_cons.1 (List.nodup_append.1 hnd).2.1).1
  refine ⟨h.bel.grown hg h.bel.size (fun k hk => by cases hk; exact h.lo (g, y) (by simp)), by rw [List.map_append, List.map_cons]; exact hnd, ?_, ?_⟩
  · intro q hq
    rcases List.mem_append.1 hq with e | e
    · exact h.lo q (List.mem_append_left _ e)
    · rcases List.mem_cons.1 e with e | e
      · subst e; exact h.lo (g, y) (by simp)
      · exact h.lo q (List.mem_append_right _ (List.mem_cons_of_mem _ e))
  · intro q hq
    rcases List.mem_append.1 hq with e | e
    · exact (h.at' q (List.mem_append_left _ e)).away hi hg (fun e2 => hga (List.mem_map.2 ⟨q, e, e2.symm⟩))
    · rcases List.mem_cons.1 e with e | e
      · subst e; exact hz
      · exact (h.at' q (List.mem_append_right _ (List.mem_cons_of_mem _ e))).away hi hg (fun e2 => hgb (List.mem_map.2 ⟨q, e, e2.symm⟩))
theorem St.get {w0 w : World} {M : List (Nat × Option Int)} (h : St w0 w M) {g : Nat} {z : Int} (hm : (g, some z) ∈ M) : IntAt w g z := h.at' (g, some z) hm
theorem St.isInt {w0 w : World} {M : List (Nat × Option Int)} (h : St w0 w M) {g : Nat} {z : Option Int} (hm : (g, z) ∈ M) : IsInt w g := (h.at' (g, z) hm).isInt
theorem cell_alloc1 {w : World} {o : Obj} {a : Addr} {v : Value} (h : w.cell? a = some v) : (w.alloc o).cell? a = some v := below_cell ((Below.refl _ _).alloc (Nat.le_refl _) o) h
theorem cell_drew1 {w : World} {a : Addr} {v : Value} (h : w.cell? a = some v) : w.drew.cell? a = some v := below_cell (below_drawn (Below.refl w.heap.size w) _) h
theorem St.at {P : Program} {f : FuncId} {args : Array Value} {post : Ending → World → Prop} {w0 w : World} {M : List (Nat × Option Int)} (h : St w0 w M) (k : St w0 w M → Calls P f args w post) : Calls P f args w post := k h
end Go.Proofs.Ytdkfaicmdbhonaa
