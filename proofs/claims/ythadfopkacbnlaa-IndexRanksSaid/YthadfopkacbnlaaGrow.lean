/-
  append onto a slice of the call's own, with what becomes of its old block; a cell of such a slice written over; the same text for every seat (no program in it).
-/
import Derived.Test.YthadfopkacbnlaaGen
namespace Go.K
open Go.RowKit
set_option linter.unusedVariables false
set_option linter.unusedSimpArgs false
theorem run_append_more {P : Program} {w : World} (t ty e : TypeId) (z : Value) (size bytes : Nat) (ht : P.underlying t = some (.slice e)) (hinfo : (P.info? e).map (fun i => (i.zero, i.size, i.bytes)) = some (some z, size, bytes))
    (hzs : z.cells.size = size) (ad : Option Addr) (n cap : Nat) (olds : List Value) (hol : olds.length = n * size) (hsl : Sl w ad olds) (hn0 : ad = none → n = 0)
    (ax : Addr) (m c : Nat) (news : List Value) (hg : cap < n + m) (hl : news.length = m * size) (hslx : Sl w (some ax) news) (h1 : ∀ u ∈ news, u.oneCell' = true)
    (h63 : n + m ≤ maxLen) (hbytes : (n + m) * bytes ≤ 140737488355328) :
    ∃ v' w', (Builtin.append_ #[t, t] ty #[.slice ad n cap, .slice (some ax) m c]).run P w = .ok v' w' ∧ w'.ownsRow w.heap.size e size v' (n + m) (olds ++ news) ∧ Below w.heap.size w w' ∧ v'.ownBlock = some w.heap.size := by
  obtain ⟨i, hi, hz, hsize, hby⟩ := info_parts hinfo
  subst hsize hby
  have hold : (Builtin.firstCells i.size n (.slice ad n cap)).run P w.drew = .ok olds.toArray w.drew := by
    cases ad with
    | none =>
      have h0 := hn0 rfl
      subst h0
      have : olds = [] := List.eq_nil_of_length_eq_zero (by simpa using hol)
      subst this
      exact run_firstCells_none w.drew i.size 0 0 cap
    | some b => exact run_firstCells_some w.drew i.size n b n cap olds hol (fun j u hu => hsl.cells j u hu)
  have hs : Src P i.size t (.slice (some ax) m c) m news w := Src.ofSlice w ht ax m c news hl hslx.cells h1
  have hrun := run_append_grow_src (P := P) w t t ty e i z ht hi hz ad n cap olds hold _ m news hs hg (by simp only [maxLen] at h63; omega) (growslice_fits hg hbytes)
  have hge := grownCap_ge w (n + m) cap e
  have hcm := grownCap_le_maxLen w (n + m) cap e h63
  have hL : (olds ++ news).length = (n + m) * i.size := by rw [List.length_append, hol, hl, Nat.add_mul]
  refine ⟨_, _, hrun, ⟨hL, .inr ⟨w.heap.size, _, _, rfl, Nat.le_refl _, heap_alloc_new w.drew _, by omega, hcm, ?_, ?_⟩⟩, ⟨rfl, rfl, rfl, by simp, fun k hk => Below.heap_alloc w.drew _ k hk⟩, rfl⟩
  · rw [Array.size_append, List.size_toArray, hL, size_zeroCells, hzs, ← Nat.add_mul]
    congr 1
    omega
  · rw [Array.toList_append, List.take_append_of_le_length (by rw [← hL]; simp)]
    exact List.take_of_length_le (by rw [← hL]; simp)
/-- append onto an owned slice: in its block, or into a new one while all that was stays. -/
theorem run_append_two {P : Program} {w : World} (t ty e : TypeId) (z : Value) (size bytes base : Nat) (ht : P.underlying t = some (.slice e)) (hinfo : (P.info? e).map (fun i => (i.zero, i.size, i.bytes)) = some (some z, size, bytes))
    (hzs : z.cells.size = size) (hsz : 0 < size) (v : Value) (n : Nat) (xs : List Value) (hown : w.ownsRow base e size v n xs)
    (ax : Addr) (m c : Nat) (news : List Value) (hm : 0 < m) (hl : news.length = m * size) (hslx : Sl w (some ax) news) (h1 : ∀ u ∈ news, u.oneCell' = true)
    (h63 : n + m ≤ maxLen) (hbytes : (n + m) * bytes ≤ 140737488355328) (hbase : base ≤ w.heap.size) :
    ∃ v' w', (Builtin.append_ #[t, t] ty #[v, .slice (some ax) m c]).run P w = .ok v' w' ∧ w'.ownsRow base e size v' (n + m) (xs ++ news) ∧ w.grownBy w' v.ownBlock ∧
      ((v'.ownBlock = v.ownBlock ∧ v.ownBlock ≠ none) ∨ (v'.ownBlock = some w.heap.size ∧ Below w.heap.size w w')) := by
  have hlen : (xs ++ news).length = (n + m) * size := by rw [List.length_append, hown.1, hl, Nat.add_mul]
  rcases hown.2 with ⟨rfl, rfl⟩ | ⟨g, cap, cur, rfl, hbg, hg, hnc, hcm, hcs, htake⟩
  · have hx : xs = [] := List.eq_nil_of_length_eq_zero (by simpa using hown.1)
    subst hx
    obtain ⟨v', w', r1, r2, r3, r4⟩ := run_append_more (P := P) (w := w) t ty e z size bytes ht hinfo hzs none 0 0 [] (by simp) (Sl.nil _ _) (fun _ => rfl) ax m c news (by omega) hl hslx h1 h63 hbytes
    exact ⟨v', w', r1, owns_base r2 hbase, grown_below r3 _, .inr ⟨r4, r3⟩⟩
  · by_cases hroom : n + m ≤ cap
    · obtain ⟨i, hi, hz, hsize, hby⟩ := info_parts hinfo
      subst hsize hby
      have hfit : n * i.size + news.length ≤ cur.size := by rw [hl, hcs, ← Nat.add_mul]; exact Nat.mul_le_mul_right _ hroom
      have hr := run_append_room (P := P) w t ty e i ht hi g n cap cur hg ax m c news hl hslx.cells h1 hroom hfit
      refine ⟨_, _, hr, ⟨hlen, .inr ⟨g, cap, _, rfl, hbg, setRow_heap w g cur _ e _ hg, hroom, hcm, ?_, ?_⟩⟩, ⟨rfl, rfl, rfl, by simp, fun k _ hk => setRow_other w g k _ (fun e => hk (by simp [Value.ownBlock, e]))⟩, .inl ⟨rfl, by simp [Value.ownBlock]⟩⟩
      · simp only [List.size_toArray, List.length_append, List.length_take, List.length_drop, Array.length_toList]
        omega
      · rw [htake, ← hlen]
        exact List.take_left
    · have hsl : Sl w (some ⟨g, 0, none⟩) xs := sl_of_owns hown
      obtain ⟨v', w', r1, r2, r3, r4⟩ := run_append_more (P := P) (w := w) t ty e z size bytes ht hinfo hzs (some ⟨g, 0, none⟩) n cap xs hown.1 hsl (fun h => by cases h) ax m c news (by omega) hl hslx h1 h63 hbytes
      exact ⟨v', w', r1, owns_base r2 hbase, grown_below r3 _, .inr ⟨r4, r3⟩⟩
theorem wpList_append_two {P : Program} {w : World} {ops : Array Oper} {rest : List Oper} {o : Oper} {a : Act} {Q : Exit → Act → World → Prop} (hgd : o.guard = none) (s x : Operand) (t : TypeId)
    (ho : o.op = .call { callee := .builtin .append, args := #[s, x], argTypes := #[t, t] })
    (base : Nat) (e : TypeId) (z : Value) (size bytes : Nat) (ht : P.underlying t = some (.slice e)) (hinfo : (P.info? e).map (fun i => (i.zero, i.size, i.bytes)) = some (some z, size, bytes))
    (hzs : z.cells.size = size) (hsz : 0 < size) (v : Value) (n : Nat) (xs : List Value) (hs : a.eval s = v) (hown : w.ownsRow base e size v n xs)
    (ax : Addr) (m c : Nat) (news : List Value) (hx : a.eval x = .slice (some ax) m c) (hm : 0 < m) (hl : news.length = m * size) (hslx : Sl w (some ax) news) (h1 : ∀ u ∈ news, u.oneCell' = true)
    (h63 : n + m ≤ maxLen) (hbytes : (n + m) * bytes ≤ 140737488355328) (hbase : base ≤ w.heap.size)
    (h : ∀ v' w', w'.ownsRow base e size v' (n + m) (xs ++ news) → w.grownBy w' v.ownBlock → ((v'.ownBlock = v.ownBlock ∧ v.ownBlock ≠ none) ∨ (v'.ownBlock = some w.heap.size ∧ Below w.heap.size w w')) → wpList P ops Q rest (a.put o.dst v') w') : wpList P ops Q (o :: rest) a w :=
  wpList_plain hgd fun _ hK => by
    obtain ⟨v', w', hr, h2, h3, h4⟩ := run_append_two (P := P) (w := w) t o.type e z size bytes base ht hinfo hzs hsz v n xs hown ax m c news hm hl hslx h1 h63 hbytes hbase
    unfold Oper.wp execOp
    simp only [ho, resolve, invoke, builtin, Sem.run_bind, Sem.run_pure, Result.andThen_ok, List.map_toArray, List.map_cons, List.map_nil, hs, hx, hr]
    exact hK _ _ (h v' w' h2 h3 h4)
/-- What a slice of the call's own shows, behind a piece of it written over. -/
def over (xs : List Value) (o : Nat) (ys : List Value) : List Value := xs.take o ++ ys ++ xs.drop (o + ys.length)
theorem over_get (xs : List Value) (o : Nat) (ys : List Value) (h : o + ys.length ≤ xs.length) (i : Nat) : (over xs o ys)[i]? = if i < o then xs[i]? else if i < o + ys.length then ys[i - o]? else xs[i]? := by
  unfold over
  have ht : (xs.take o).length = o := by rw [List.length_take]; omega
  by_cases h2 : i < o
  · rw [if_pos h2, List.append_assoc, List.getElem?_append_left (by omega), List.getElem?_take, if_pos h2]
  · rw [if_neg h2]
    by_cases h3 : i < o + ys.length
    · rw [if_pos h3, List.append_assoc, List.getElem?_append_right (by omega), ht, List.getElem?_append_left (by omega)]
    · rw [if_neg h3, List.getElem?_append_right (by rw [List.length_append]; omega), List.length_append, ht, List.getElem?_drop]
      congr 1
      omega
theorem over_length (xs : List Value) (o : Nat) (ys : List Value) (h : o + ys.length ≤ xs.length) : (over xs o ys).length = xs.length := by
  unfold over
  simp only [List.length_append, List.length_take, List.length_drop]
  omega
theorem own_over {W : World} {base : Nat} {e : TypeId} {size n g cap : Nat} {xs : List Value} (h : W.ownsRow base e size (.slice (some ⟨g, 0, none⟩) n cap) n xs) (o : Nat) (ys : List Value) (ho : o + ys.length ≤ n * size) :
    ∃ cur, W.heap[g]? = some (.cells cur e (0, 0)) ∧ o + ys.length ≤ cur.size ∧ ∀ W', Put W g (.cells (cur.toList.take o ++ ys ++ cur.toList.drop (o + ys.length)).toArray e) W' → W'.ownsRow base e size (.slice (some ⟨g, 0, none⟩) n cap) n (over xs o ys) := by
  have hx := h.1
  rcases h.2 with ⟨h1, h0⟩ | ⟨g', cap', cur, hv, hbg, hg, hnc, hcm, hcs, htake⟩
  · cases h1
  · injection hv with h1 h2 h3
    injection h1 with h1
    injection h1 with h1
    subst h1 h3
    have hle : n * size ≤ cap * size := Nat.mul_le_mul_right _ hnc
    have hcl : cur.toList.length = cap * size := by simpa using hcs
    refine ⟨cur, hg, by omega, fun W' hp => ⟨?_, .inr ⟨g, cap, _, rfl, hbg, hp.at', hnc, hcm, ?_, ?_⟩⟩⟩
    · unfold over
      simp only [List.length_append, List.length_take, List.length_drop]
      omega
    · simp only [List.size_toArray, List.length_append, List.length_take, List.length_drop]
      omega
    · rw [List.toList_toArray]
      apply List.ext_getElem?
      intro i
      have e1 := over_get cur.toList o ys (by omega) i
      have e2 := over_get xs o ys (by omega) i
      unfold over at e1
      rw [List.getElem?_take, e1, e2]
      have e3 : xs[i]? = if i < n * size then cur.toList[i]? else none := by rw [← htake, List.getElem?_take]
      rw [e3]
      by_cases hi : i < n * size
      · rw [if_pos hi, if_pos hi]
      · rw [if_neg hi, if_neg hi, if_neg (by omega), if_neg (by omega)]
end Go.K
