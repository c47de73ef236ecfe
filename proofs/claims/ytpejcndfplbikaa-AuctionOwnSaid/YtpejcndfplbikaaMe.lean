/-
  Layer 21: the auctions that the statements begin themselves.
-/
import Derived.Test.YtpejcndfplbikaaVo
namespace Go.Proofs.Ytpejcndfplbikaa
open Go.RowKit Go.K
set_option linter.unusedVariables false
set_option linter.unusedSimpArgs false
def e7 : Ent := ⟨1, 7, 0, 0, none, 0, []⟩
def conB (k r s : Int) (a : Option Addr) (c : Nat) : Con := ⟨0, k, 1, 0, 0, 0, 0, r, s, 0, a, c, [e7]⟩
set_option maxRecDepth 100000 in
theorem begun_any (k r s : Int) (w : World) : Calls Try.prog 32 #[.int .i64 k, .int .u64 r, .int .u64 s] w fun e w' => ∃ a c, e = .returned (Con.agg (conB k r s a c)) ∧ NewC w.heap.size w' (conB k r s a c) ∧ Below w.heap.size w w' := by
  have HB := Lib.hid (((Below.refl w.heap.size w).alloc (Nat.le_refl _) (.cells #[.int .i64 0, .int .i64 0, .int .i64 0, .int .i64 0, .int .i64 0, .int .i64 0, .int .u64 0, .int .u64 0, .int .u64 0, .int .i64 0, .slice none 0 0] 25)).alloc (by simp) (.cells #[.int .i64 1, .int .i64 7, .int .u64 0, .int .u64 0, .slice none 0 0] 33))
  have HR := Lib.hid (show ((w.alloc (.cells #[.int .i64 0, .int .i64 0, .int .i64 0, .int .i64 0, .int .i64 0, .int .i64 0, .int .u64 0, .int .u64 0, .int .u64 0, .int .i64 0, .slice none 0 0] 25)).alloc (.cells #[.int .i64 1, .int .i64 7, .int .u64 0, .int .u64 0, .slice none 0 0] 33)).heap[w.heap.size]? = some (.cells #[.int .i64 0, .int .i64 0, .int .i64 0, .int .i64 0, .int .i64 0, .int .i64 0, .int .u64 0, .int .u64 0, .int .u64 0, .int .i64 0, .slice none 0 0] 25) from alloc_old (alloc_at rfl))
  have HO := Lib.hid (show ((w.alloc (.cells #[.int .i64 0, .int .i64 0, .int .i64 0, .int .i64 0, .int .i64 0, .int .i64 0, .int .u64 0, .int .u64 0, .int .u64 0, .int .i64 0, .slice none 0 0] 25)).alloc (.cells #[.int .i64 1, .int .i64 7, .int .u64 0, .int .u64 0, .slice none 0 0] 33)).ownsRow (w.heap.size + 1) 33 5 (.slice (some ⟨w.heap.size + 1, 0, none⟩) 1 1) 1 (eFlat [e7]) from
    ⟨rfl, .inr ⟨w.heap.size + 1, 1, _, rfl, Nat.le_refl _, alloc_at (by simp), Nat.le_refl _, by decide, rfl, rfl⟩⟩)
  go_enter Try.func32, Try.ntmps32
  go_wp2_with ((with_reducible refine at_store_op ?_); refine wpList_store_lit 25 w.heap.size 0 #[.int .i64 0, .int .i64 k, .int .i64 1, .int .i64 0, .int .i64 0, .int .i64 0, .int .u64 0, .int .u64 r, .int .u64 s, .int .i64 0, .slice (some ⟨w.heap.size + 1, 0, none⟩) 1 1] (.agg #[.int .i64 0, .int .i64 k, .int .i64 1, .int .i64 0, .int .i64 0, .int .i64 0, .int .u64 0, .int .u64 r, .int .u64 s, .int .i64 0, .slice (some ⟨w.heap.size + 1, 0, none⟩) 1 1]) HR.out szC (Nat.le_of_ble_eq_true rfl) rfl rfl ?_ ?_ ?_; exact rfl; exact rfl; intro w3 hp3)
  have HB3 := hp3.below HB.out HB.out.size (Nat.le_refl _)
  have HO3 := HO.out.kept hp3.grown (.inr (fun e => by have := (HO.out.lt _ e).1; omega))
  refine bodyPost_ret (results_cell_row Try.results32 _ _ w.heap.size 25 _ _ _ rfl hp3.at' Try.underlying25 rfl szC) rfl ⟨some ⟨w.heap.size + 1, 0, none⟩, 1, rfl, ⟨owns_base HO3 (by omega), fun e he => ?_, (by show 1 ≤ 2513169434843; decide)⟩, HB3⟩
  rw [show (conB k r s (some ⟨w.heap.size + 1, 0, none⟩) 1).es = [e7] from rfl, List.mem_singleton] at he
  subst he
  exact ⟨World.ownsRow_nil _ _ _ _, by decide, (fun x hx => by cases hx), by decide, by decide, by decide⟩
end Go.Proofs.Ytpejcndfplbikaa
