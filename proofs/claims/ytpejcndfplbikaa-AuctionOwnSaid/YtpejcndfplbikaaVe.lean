/-
  Layer 21: the hall of an auction.
-/
import Derived.Test.YtpejcndfplbikaaVd
namespace Go.Proofs.Ytpejcndfplbikaa
open Go.RowKit Go.K
set_option linter.unusedVariables false
set_option linter.unusedSimpArgs false
def winsV (k : Int) (gc : Nat) : Value := if k = 2 then .func (.func 51) #[] #[.pointer (some ⟨gc, 0, none⟩)] else if k = 3 then .func (.func 52) #[] #[.pointer (some ⟨gc, 0, none⟩)] else .nilFunc
def Con.hall (c : Con) (v : Value) : Array Value := #[.int .i64 c.num, .int .i64 c.kind, .int .i64 c.by', .int .i64 c.dl, .int .i64 c.to', .int .i64 c.want, .int .u64 c.price, .int .u64 c.reserve, .int .u64 c.step, .int .i64 c.of', .slice c.ea c.es.length c.ec, v]
structure Hall (W : World) (g gc : Nat) (c : Con) : Prop where
  row : W.heap[g]? = some (.cells (c.hall (winsV c.kind gc)) 75)
  cell : W.heap[gc]? = some (.cells #[.pointer (some ⟨g, 0, none⟩)] 71)
theorem szF : (Try.prog.info? 73).map (·.size) = some 1 := by kernel_rfl
set_option maxRecDepth 100000 in
set_option maxHeartbeats 1000000 in
theorem open_any (c : Con) (w : World) :
    Calls Try.prog 34 #[c.agg] w fun r w' => ∃ g gc, r = .returned (.pointer (some ⟨g, 0, none⟩)) ∧ w.heap.size ≤ g ∧ w.heap.size ≤ gc ∧ Hall w' g gc c ∧ Below w.heap.size w w' := by
  obtain ⟨n, k, b, d, t, wn, p, r, s, o, ea, ec, es⟩ := c
  unfold Con.agg
  simp only
  have HB := Lib.hid ((((Below.refl w.heap.size w).alloc (Nat.le_refl _) (.cells #[.int .i64 n, .int .i64 k, .int .i64 b, .int .i64 d, .int .i64 t, .int .i64 wn, .int .u64 p, .int .u64 r, .int .u64 s, .int .i64 o, .slice ea es.length ec] 25)).alloc (by simp) (.cells #[.int .i64 n, .int .i64 k, .int .i64 b, .int .i64 d, .int .i64 t, .int .i64 wn, .int .u64 p, .int .u64 r, .int .u64 s, .int .i64 o, .slice ea es.length ec, .nilFunc] 75)).alloc (by simp; omega) (.cells #[.pointer (some ⟨w.heap.size + 1, 0, none⟩)] 71))
  have HR := Lib.hid (show (((w.alloc (.cells #[.int .i64 n, .int .i64 k, .int .i64 b, .int .i64 d, .int .i64 t, .int .i64 wn, .int .u64 p, .int .u64 r, .int .u64 s, .int .i64 o, .slice ea es.length ec] 25)).alloc (.cells #[.int .i64 n, .int .i64 k, .int .i64 b, .int .i64 d, .int .i64 t, .int .i64 wn, .int .u64 p, .int .u64 r, .int .u64 s, .int .i64 o, .slice ea es.length ec, .nilFunc] 75)).alloc (.cells #[.pointer (some ⟨w.heap.size + 1, 0, none⟩)] 71)).heap[w.heap.size + 1]? = some (.cells #[.int .i64 n, .int .i64 k, .int .i64 b, .int .i64 d, .int .i64 t, .int .i64 wn, .int .u64 p, .int .u64 r, .int .u64 s, .int .i64 o, .slice ea es.length ec, .nilFunc] 75) from alloc_old (alloc_at (by simp)))
  have HG := Lib.hid (show (((w.alloc (.cells #[.int .i64 n, .int .i64 k, .int .i64 b, .int .i64 d, .int .i64 t, .int .i64 wn, .int .u64 p, .int .u64 r, .int .u64 s, .int .i64 o, .slice ea es.length ec] 25)).alloc (.cells #[.int .i64 n, .int .i64 k, .int .i64 b, .int .i64 d, .int .i64 t, .int .i64 wn, .int .u64 p, .int .u64 r, .int .u64 s, .int .i64 o, .slice ea es.length ec, .nilFunc] 75)).alloc (.cells #[.pointer (some ⟨w.heap.size + 1, 0, none⟩)] 71)).heap[w.heap.size + 1 + 1]? = some (.cells #[.pointer (some ⟨w.heap.size + 1, 0, none⟩)] 71) from alloc_at (by simp))
  go_enter Try.func34, Try.ntmps34
  by_cases h1 : k = 2
  · subst h1
    go_wp2_with (refine wpList_store_lit 73 (w.heap.size + 1) 11 #[.int .i64 n, .int .i64 2, .int .i64 b, .int .i64 d, .int .i64 t, .int .i64 wn, .int .u64 p, .int .u64 r, .int .u64 s, .int .i64 o, .slice ea es.length ec, .func (.func 51) #[] #[.pointer (some ⟨w.heap.size + 1 + 1, 0, none⟩)]] (.func (.func 51) #[] #[.pointer (some ⟨w.heap.size + 1 + 1, 0, none⟩)]) HR.out szF (Nat.le_of_ble_eq_true rfl) rfl rfl (by rfl) (by rfl) ?_; intro w3 hp3; have s2 := hp3.row HG.out (by omega); have z1 : w3.cell? ⟨w.heap.size + 1 + 1, 0, none⟩ = some (.pointer (some ⟨w.heap.size + 1, 0, none⟩)) := (by rw [cell_of_row _ _ _ _ _ _ s2]; rfl))
    go_ret
    exact ⟨_, _, rfl, by omega, by omega, ⟨hp3.at', s2⟩, hp3.below HB.out HB.out.size (by omega)⟩
  · have c1 : (k == 2) = false := by simpa using h1
    by_cases h2 : k = 3
    · subst h2
      go_wp2_with (refine wpList_store_lit 73 (w.heap.size + 1) 11 #[.int .i64 n, .int .i64 3, .int .i64 b, .int .i64 d, .int .i64 t, .int .i64 wn, .int .u64 p, .int .u64 r, .int .u64 s, .int .i64 o, .slice ea es.length ec, .func (.func 52) #[] #[.pointer (some ⟨w.heap.size + 1 + 1, 0, none⟩)]] (.func (.func 52) #[] #[.pointer (some ⟨w.heap.size + 1 + 1, 0, none⟩)]) HR.out szF (Nat.le_of_ble_eq_true rfl) rfl rfl (by rfl) (by rfl) ?_; intro w3 hp3; have s2 := hp3.row HG.out (by omega); have z1 : w3.cell? ⟨w.heap.size + 1 + 1, 0, none⟩ = some (.pointer (some ⟨w.heap.size + 1, 0, none⟩)) := (by rw [cell_of_row _ _ _ _ _ _ s2]; rfl))
      go_ret
      exact ⟨_, _, rfl, by omega, by omega, ⟨hp3.at', s2⟩, hp3.below HB.out HB.out.size (by omega)⟩
    · have c2 : (k == 3) = false := by simpa using h2
      have HV := Lib.hid (show winsV k (w.heap.size + 1 + 1) = .nilFunc by unfold winsV; rw [if_neg h1, if_neg h2])
      clear h1 h2
      go_wp2
      go_ret
      exact ⟨_, _, rfl, by omega, by omega, ⟨by rw [HV.out]; exact HR.out, HG.out⟩, HB.out⟩
end Go.Proofs.Ytpejcndfplbikaa
