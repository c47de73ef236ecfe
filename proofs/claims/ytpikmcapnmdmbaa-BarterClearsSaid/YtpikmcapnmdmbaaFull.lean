/-
  append onto a slice without room (its capacity is its length): always a new row; the same text for every seat (no program in it).
-/
import Derived.Test.YtpikmcapnmdmbaaOnly
import Derived.Deep.AppendSrc
namespace Go.K
open Go.RowKit
set_option linter.unusedVariables false
theorem run_append_full {P : Program} {w : World} (t ty e : TypeId) (z : Value) (size bytes : Nat) (ht : P.underlying t = some (.slice e)) (hinfo : (P.info? e).map (fun i => (i.zero, i.size, i.bytes)) = some (some z, size, bytes))
    (hzs : z.cells.size = size) (ad : Option Addr) (n : Nat) (olds : List Value) (hol : olds.length = n * size) (hsl : Sl w ad olds) (hn0 : ad = none → n = 0)
    (ax : Addr) (m c : Nat) (news : List Value) (hm : 0 < m) (hl : news.length = m * size) (hslx : Sl w (some ax) news) (h1 : ∀ u ∈ news, u.oneCell' = true)
    (h63 : n + m ≤ maxLen) (hbytes : (n + m) * bytes ≤ 140737488355328) :
    ∃ v' w', (Builtin.append_ #[t, t] ty #[.slice ad n n, .slice (some ax) m c]).run P w = .ok v' w' ∧ w'.ownsRow w.heap.size e size v' (n + m) (olds ++ news) ∧ Below w.heap.size w w' := by
  obtain ⟨i, hi, hz, hsize, hby⟩ := info_parts hinfo
  subst hsize hby
  have hold : (Builtin.firstCells i.size n (.slice ad n n)).run P w.drew = .ok olds.toArray w.drew := by
    cases ad with
    | none =>
      have h0 := hn0 rfl
      subst h0
      have : olds = [] := List.eq_nil_of_length_eq_zero (by simpa using hol)
      subst this
      exact run_firstCells_none w.drew i.size 0 0 0
    | some b => exact run_firstCells_some w.drew i.size n b n n olds hol (fun j u hu => hsl.cells j u hu)
  have hs : Src P i.size t (.slice (some ax) m c) m news w := Src.ofSlice w ht ax m c news hl hslx.cells h1
  have hg : n < n + m := by omega
  have hrun := run_append_grow_src (P := P) w t t ty e i z ht hi hz ad n n olds hold _ m news hs hg (by simp only [maxLen] at h63; omega) (growslice_fits hg hbytes)
  have hge := grownCap_ge w (n + m) n e
  have hcm := grownCap_le_maxLen w (n + m) n e h63
  have hL : (olds ++ news).length = (n + m) * i.size := by rw [List.length_append, hol, hl, Nat.add_mul]
  refine ⟨_, _, hrun, ⟨hL, .inr ⟨w.heap.size, _, _, rfl, Nat.le_refl _, heap_alloc_new w.drew _, by omega, hcm, ?_, ?_⟩⟩, ⟨rfl, rfl, rfl, by simp, fun k hk => Below.heap_alloc w.drew _ k hk⟩⟩
  · rw [Array.size_append, List.size_toArray, hL, size_zeroCells, hzs, ← Nat.add_mul]
    congr 1
    omega
  · rw [Array.toList_append, List.take_append_of_le_length (by rw [← hL]; simp)]
    exact List.take_of_length_le (by rw [← hL]; simp)
theorem wpList_append_full {P : Program} {w : World} {ops : Array Oper} {rest : List Oper} {o : Oper} {a : Act} {Q : Exit → Act → World → Prop} (hgd : o.guard = none) (s x : Operand) (t : TypeId)
    (ho : o.op = .call { callee := .builtin .append, args := #[s, x], argTypes := #[t, t] })
    (e : TypeId) (z : Value) (size bytes : Nat) (ht : P.underlying t = some (.slice e)) (hinfo : (P.info? e).map (fun i => (i.zero, i.size, i.bytes)) = some (some z, size, bytes))
    (hzs : z.cells.size = size) (ad : Option Addr) (n : Nat) (olds : List Value) (hs : a.eval s = .slice ad n n) (hol : olds.length = n * size) (hsl : Sl w ad olds) (hn0 : ad = none → n = 0)
    (ax : Addr) (m c : Nat) (news : List Value) (hx : a.eval x = .slice (some ax) m c) (hm : 0 < m) (hl : news.length = m * size) (hslx : Sl w (some ax) news) (h1 : ∀ u ∈ news, u.oneCell' = true)
    (h63 : n + m ≤ maxLen) (hbytes : (n + m) * bytes ≤ 140737488355328)
    (h : ∀ v' w', w'.ownsRow w.heap.size e size v' (n + m) (olds ++ news) → Below w.heap.size w w' → wpList P ops Q rest (a.put o.dst v') w') : wpList P ops Q (o :: rest) a w :=
  wpList_plain hgd fun _ hK => by
    obtain ⟨v', w', hr, h2, h3⟩ := run_append_full (P := P) (w := w) t o.type e z size bytes ht hinfo hzs ad n olds hol hsl hn0 ax m c news hm hl hslx h1 h63 hbytes
    unfold Oper.wp execOp
    simp only [ho, resolve, invoke, builtin, Sem.run_bind, Sem.run_pure, Result.andThen_ok, List.map_toArray, List.map_cons, List.map_nil, hs, hx, hr]
    exact hK _ _ (h v' w' h2 h3)
end Go.K
