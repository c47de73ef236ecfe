/-
  append onto a slice of the call's own, with what ALL cells of its block hold (its spare room too); the same text for every seat (no program in it).
-/
import Derived.Test.YtdkfaicmdbhonaaGrow
namespace Go.K
open Go.RowKit
set_option linter.unusedVariables false
set_option linter.unusedSimpArgs false
/-- All cells of a slice's own block are of a kind. -/
def CellsT (T : Value → Prop) (W : World) (v : Value) : Prop := ∀ r, v.ownBlock = some r → ∃ cur t, W.heap[r]? = some (.cells cur t (0, 0)) ∧ ∀ c ∈ cur.toList, T c
theorem mem_zeroCells {z : Array Value} {n : Nat} {c : Value} (h : c ∈ (Builtin.zeroCells z n).toList) (hz : 0 < z.size) : c ∈ z.toList := by
  unfold Builtin.zeroCells at h
  rw [Array.toList_map] at h
  obtain ⟨i, _, rfl⟩ := List.mem_map.1 h
  have hi : i % z.size < z.size := Nat.mod_lt _ hz
  rw [getElem!_pos z _ hi]
  exact Array.getElem_mem_toList hi
theorem run_append_more_t {P : Program} {w : World} (T : Value → Prop) (t ty e : TypeId) (z : Value) (size bytes : Nat) (ht : P.underlying t = some (.slice e)) (hinfo : (P.info? e).map (fun i => (i.zero, i.size, i.bytes)) = some (some z, size, bytes))
    (hzs : z.cells.size = size) (hsz : 0 < size) (ad : Option Addr) (n cap : Nat) (olds : List Value) (hol : olds.length = n * size) (hsl : Sl w ad olds) (hn0 : ad = none → n = 0)
    (ax : Addr) (m c : Nat) (news : List Value) (hg : cap < n + m) (hl : news.length = m * size) (hslx : Sl w (some ax) news) (h1 : ∀ u ∈ news, u.oneCell' = true)
    (h63 : n + m ≤ maxLen) (hbytes : (n + m) * bytes ≤ 140737488355328) (hT1 : ∀ u ∈ olds, T u) (hT2 : ∀ u ∈ news, T u) (hT3 : ∀ u ∈ z.cells.toList, T u) :
    ∃ v' w', (Builtin.append_ #[t, t] ty #[.slice ad n cap, .slice (some ax) m c]).run P w = .ok v' w' ∧ w'.ownsRow w.heap.size e size v' (n + m) (olds ++ news) ∧ Below w.heap.size w w' ∧ v'.ownBlock = some w.heap.size ∧ CellsT T w' v' := by
  obtain ⟨i, hi, hz, hsize, hby⟩ := info_parts hinfo
  subst hsize hby
  have hold : (Builtin.firstCells i.size n (.slice ad n cap)).run P w.drew = .ok olds.toArray w.drew := by
    cases ad with
    | none =>
      have h0 := hn0 rfl
      subst h0
      have : olds = [] := List.eq_nil_of_length_eq_zero (by simpa using hol)
      subst this
      exact run_firstCells_none w.drew i.size 0 0 cap
    | some b => exact run_firstCells_some w.drew i.size n b n cap olds hol (fun j u hu => hsl.cells j u hu)
  have hs : Src P i.size t (.slice (some ax) m c) m news w := Src.ofSlice w ht ax m c news hl hslx.cells h1
  have hrun := run_append_grow_src (P := P) w t t ty e i z ht hi hz ad n cap olds hold _ m news hs hg (by simp only [maxLen] at h63; omega) (growslice_fits hg hbytes)
  have hge := grownCap_ge w (n + m) cap e
  have hcm := grownCap_le_maxLen w (n + m) cap e h63
  have hL : (olds ++ news).length = (n + m) * i.size := by rw [List.length_append, hol, hl, Nat.add_mul]
  refine ⟨_, _, hrun, ⟨hL, .inr ⟨w.heap.size, _, _, rfl, Nat.le_refl _, heap_alloc_new w.drew _, by omega, hcm, ?_, ?_⟩⟩, ⟨rfl, rfl, rfl, by simp, fun k hk => Below.heap_alloc w.drew _ k hk⟩, rfl, ?_⟩
  · rw [Array.size_append, List.size_toArray, hL, size_zeroCells, hzs, ← Nat.add_mul]
    congr 1
    omega
  · rw [Array.toList_append, List.take_append_of_le_length (by rw [← hL]; simp)]
    exact List.take_of_length_le (by rw [← hL]; simp)
  · intro r hr
    have hr : w.heap.size = r := Option.some.inj hr
    subst hr
    refine ⟨_, _, heap_alloc_new w.drew _, fun c hc => ?_⟩
    rw [Array.toList_append] at hc
    rcases List.mem_append.1 hc with h2 | h2
    · have h2 : c ∈ olds ++ news := by simpa using h2
      rcases List.mem_append.1 h2 with h3 | h3
      · exact hT1 c h3
      · exact hT2 c h3
    · exact hT3 c (mem_zeroCells h2 (by omega))
theorem run_append_two_t {P : Program} {w : World} (T : Value → Prop) (t ty e : TypeId) (z : Value) (size bytes base : Nat) (ht : P.underlying t = some (.slice e)) (hinfo : (P.info? e).map (fun i => (i.zero, i.size, i.bytes)) = some (some z, size, bytes))
    (hzs : z.cells.size = size) (hsz : 0 < size) (v : Value) (n : Nat) (xs : List Value) (hown : w.ownsRow base e size v n xs) (hTv : CellsT T w v)
    (ax : Addr) (m c : Nat) (news : List Value) (hm : 0 < m) (hl : news.length = m * size) (hslx : Sl w (some ax) news) (h1 : ∀ u ∈ news, u.oneCell' = true)
    (h63 : n + m ≤ maxLen) (hbytes : (n + m) * bytes ≤ 140737488355328) (hbase : base ≤ w.heap.size) (hT2 : ∀ u ∈ news, T u) (hT3 : ∀ u ∈ z.cells.toList, T u) :
    ∃ v' w', (Builtin.append_ #[t, t] ty #[v, .slice (some ax) m c]).run P w = .ok v' w' ∧ w'.ownsRow base e size v' (n + m) (xs ++ news) ∧ w.grownBy w' v.ownBlock ∧
      ((v'.ownBlock = v.ownBlock ∧ v.ownBlock ≠ none) ∨ (v'.ownBlock = some w.heap.size ∧ Below w.heap.size w w')) ∧ CellsT T w' v' := by
  have hlen : (xs ++ news).length = (n + m) * size := by rw [List.length_append, hown.1, hl, Nat.add_mul]
  rcases hown.2 with ⟨rfl, rfl⟩ | ⟨g, cap, cur, rfl, hbg, hg, hnc, hcm, hcs, htake⟩
  · have hx : xs = [] := List.eq_nil_of_length_eq_zero (by simpa using hown.1)
    subst hx
    obtain ⟨v', w', r1, r2, r3, r4, r5⟩ := run_append_more_t (P := P) (w := w) T t ty e z size bytes ht hinfo hzs hsz none 0 0 [] (by simp) (Sl.nil _ _) (fun _ => rfl) ax m c news (by omega) hl hslx h1 h63 hbytes (fun u hu => by cases hu) hT2 hT3
    exact ⟨v', w', r1, owns_base r2 hbase, grown_below r3 _, .inr ⟨r4, r3⟩, r5⟩
  · obtain ⟨cur2, t2, hg2, hall⟩ := hTv g rfl
    rw [hg] at hg2
    have ec : cur = cur2 := by injection hg2 with h; injection h
    subst ec
    by_cases hroom : n + m ≤ cap
    · obtain ⟨i, hi, hz, hsize, hby⟩ := info_parts hinfo
      subst hsize hby
      have hfit : n * i.size + news.length ≤ cur.size := by rw [hl, hcs, ← Nat.add_mul]; exact Nat.mul_le_mul_right _ hroom
      have hr := run_append_room (P := P) w t ty e i ht hi g n cap cur hg ax m c news hl hslx.cells h1 hroom hfit
      refine ⟨_, _, hr, ⟨hlen, .inr ⟨g, cap, _, rfl, hbg, setRow_heap w g cur _ e _ hg, hroom, hcm, ?_, ?_⟩⟩, ⟨rfl, rfl, rfl, by simp, fun k _ hk => setRow_other w g k _ (fun e => hk (by simp [Value.ownBlock, e]))⟩, .inl ⟨rfl, by simp [Value.ownBlock]⟩, ?_⟩
      · simp only [List.size_toArray, List.length_append, List.length_take, List.length_drop, Array.length_toList]
        omega
      · rw [htake, ← hlen]
        exact List.take_left
      · intro r hr2
        have hr2 : g = r := Option.some.inj hr2
        subst hr2
        refine ⟨_, _, setRow_heap w g cur _ e _ hg, fun c hc => ?_⟩
        rw [List.toList_toArray] at hc
        rcases List.mem_append.1 hc with h2 | h2
        · rcases List.mem_append.1 h2 with h3 | h3
          · exact hall c (List.mem_of_mem_take h3)
          · exact hT2 c h3
        · exact hall c (List.mem_of_mem_drop h2)
    · have hsl : Sl w (some ⟨g, 0, none⟩) xs := sl_of_owns hown
      obtain ⟨v', w', r1, r2, r3, r4, r5⟩ := run_append_more_t (P := P) (w := w) T t ty e z size bytes ht hinfo hzs hsz (some ⟨g, 0, none⟩) n cap xs hown.1 hsl (fun h => by cases h) ax m c news (by omega) hl hslx h1 h63 hbytes
        (fun u hu => hall u (by rw [← htake] at hu; exact List.mem_of_mem_take hu)) hT2 hT3
      exact ⟨v', w', r1, owns_base r2 hbase, grown_below r3 _, .inr ⟨r4, r3⟩, r5⟩
theorem wpList_append_t {P : Program} {w : World} {ops : Array Oper} {rest : List Oper} {o : Oper} {a : Act} {Q : Exit → Act → World → Prop} (T : Value → Prop) (hgd : o.guard = none) (s x : Operand) (t : TypeId)
    (ho : o.op = .call { callee := .builtin .append, args := #[s, x], argTypes := #[t, t] })
    (base : Nat) (e : TypeId) (z : Value) (size bytes : Nat) (ht : P.underlying t = some (.slice e)) (hinfo : (P.info? e).map (fun i => (i.zero, i.size, i.bytes)) = some (some z, size, bytes))
    (hzs : z.cells.size = size) (hsz : 0 < size) (v : Value) (n : Nat) (xs : List Value) (hs : a.eval s = v) (hown : w.ownsRow base e size v n xs) (hTv : CellsT T w v)
    (ax : Addr) (m c : Nat) (news : List Value) (hx : a.eval x = .slice (some ax) m c) (hm : 0 < m) (hl : news.length = m * size) (hslx : Sl w (some ax) news) (h1 : ∀ u ∈ news, u.oneCell' = true)
    (h63 : n + m ≤ maxLen) (hbytes : (n + m) * bytes ≤ 140737488355328) (hbase : base ≤ w.heap.size) (hT2 : ∀ u ∈ news, T u) (hT3 : ∀ u ∈ z.cells.toList, T u)
    (h : ∀ v' w', w'.ownsRow base e size v' (n + m) (xs ++ news) → w.grownBy w' v.ownBlock → CellsT T w' v' → wpList P ops Q rest (a.put o.dst v') w') : wpList P ops Q (o :: rest) a w :=
  wpList_plain hgd fun _ hK => by
    obtain ⟨v', w', hr, h2, h3, h4, h5⟩ := run_append_two_t (P := P) (w := w) T t o.type e z size bytes base ht hinfo hzs hsz v n xs hown hTv ax m c news hm hl hslx h1 h63 hbytes hbase hT2 hT3
    unfold Oper.wp execOp
    simp only [ho, resolve, invoke, builtin, Sem.run_bind, Sem.run_pure, Result.andThen_ok, List.map_toArray, List.map_cons, List.map_nil, hs, hx, hr]
    exact hK _ _ (h v' w' h2 h3 h5)
theorem CellsT.nil (T : Value → Prop) (W : World) : CellsT T W (.slice none 0 0) := fun r h => by cases h
theorem CellsT.kept {T : Value → Prop} {W W' : World} {v : Value} {row : Option Nat} (h : CellsT T W v) (hg : W.grownBy W' row) (hn : v.ownBlock = none ∨ v.ownBlock ≠ row) : CellsT T W' v := by
  intro r hr
  obtain ⟨cur, t, h1, h2⟩ := h r hr
  refine ⟨cur, t, row_past h1 hg (fun e => ?_), h2⟩
  rcases hn with h3 | h3
  · rw [h3] at hr; cases hr
  · exact h3 (hr.trans e)
end Go.K
