/-
  Layer 19: who asks and who bids; what End gives, plain; the closure that adds coins.
-/
import Derived.Test.YtbggibdldadpiaaYe
import Derived.Test.YtbggibdldadpiaaHd
import Derived.Test.YtbggibdldadpiaaKb
import Derived.Test.YtbggibdldadpiaaDuo
namespace Go.Proofs.Ytbggibdldadpiaa
open Go.RowKit Go.K
set_option linter.unusedVariables false
set_option linter.unusedSimpArgs false
def entZ : Ent := ⟨0, 0, 0, 0, none, 0, []⟩
def entN (es : List Ent) (i : Nat) : Ent := es.getD i entZ
theorem entN_get (es : List Ent) (i : Nat) (h : i < es.length) : entN es i = es[i] := by unfold entN; rw [List.getD_eq_getElem?_getD, List.getElem?_eq_getElem h]; rfl
/-- Who asks, who bids, of the first k. -/
def iA (es : List Ent) : Nat → List Nat
  | 0 => []
  | k + 1 => iA es k ++ if (entN es k).item = 0 then [] else [k]
def iB (es : List Ent) : Nat → List Nat
  | 0 => []
  | k + 1 => iB es k ++ if (entN es k).item = 0 then [k] else []
def qA (es : List Ent) (k : Nat) : List (BitVec 64) := (iA es k).map fun i => BitVec.ofInt 64 (entN es i).price
def qB (es : List Ent) (k : Nat) : List (BitVec 64) := (iB es k).map fun i => BitVec.ofInt 64 (entN es i).coins
theorem iA_le (es : List Ent) : ∀ k, (iA es k).length ≤ k
  | 0 => Nat.le_refl _
  | k + 1 => by rw [iA, List.length_append]; have := iA_le es k; split <;> simp <;> omega
theorem iB_le (es : List Ent) : ∀ k, (iB es k).length ≤ k
  | 0 => Nat.le_refl _
  | k + 1 => by rw [iB, List.length_append]; have := iB_le es k; split <;> simp <;> omega
theorem iA_lt (es : List Ent) : ∀ k, ∀ i ∈ iA es k, i < k
  | 0, i, h => by cases h
  | k + 1, i, h => by
    rw [iA] at h
    rcases List.mem_append.1 h with h | h
    · have := iA_lt es k i h; omega
    · split at h
      · cases h
      · rw [List.mem_singleton] at h; omega
theorem iB_lt (es : List Ent) : ∀ k, ∀ i ∈ iB es k, i < k
  | 0, i, h => by cases h
  | k + 1, i, h => by
    rw [iB] at h
    rcases List.mem_append.1 h with h | h
    · have := iB_lt es k i h; omega
    · split at h
      · rw [List.mem_singleton] at h; omega
      · cases h
theorem qA_len (es : List Ent) (k : Nat) : (qA es k).length = (iA es k).length := List.length_map _
theorem qB_len (es : List Ent) (k : Nat) : (qB es k).length = (iB es k).length := List.length_map _
def vN (l : List Nat) : List Value := l.map fun (i : Nat) => Value.int .i64 (i : Int)
theorem vN_length (l : List Nat) : (vN l).length = l.length := List.length_map _
theorem vN_append (l m : List Nat) : vN (l ++ m) = vN l ++ vN m := List.map_append ..
theorem vN_at {W : World} {a : Option Addr} {l : List Nat} (h : Sl W a (vN l)) (k : Nat) (hk : k < l.length) : ∃ b o, a = some ⟨b, o, none⟩ ∧ W.cell? ⟨b, o + k, none⟩ = some (.int .i64 ((l.getD k 0 : Nat) : Int)) := by
  obtain ⟨b, o, he, hc⟩ := h (fun e => by have := congrArg List.length e; rw [vN_length] at this; rw [this] at hk; cases hk)
  refine ⟨b, o, he, ?_⟩
  rw [hc k (by rw [vN_length]; exact hk)]
  unfold vN
  rw [List.getElem?_map, List.getElem?_eq_getElem hk, List.getD_eq_getElem?_getD, List.getElem?_eq_getElem hk]; rfl
theorem rowN_sl_at {W : World} {a : Option Addr} {d : Nat → Nat} {n : Nat} (h : Sl W a (rowN d n)) (k : Nat) (hk : k < n) : ∃ b o, a = some ⟨b, o, none⟩ ∧ W.cell? ⟨b, o + k, none⟩ = some (.int .i64 ((d k : Nat) : Int)) := by
  have hl : (rowN d n).length = n := by simp [rowN]
  obtain ⟨b, o, he, hc⟩ := h (fun e => by rw [e] at hl; simp at hl; omega)
  refine ⟨b, o, he, ?_⟩
  rw [hc k (by omega)]
  simp [rowN, hk]
theorem iA_getD_lt (es : List Ent) (n k : Nat) (h : k < (iA es n).length) : (iA es n).getD k 0 < n := by
  rw [List.getD_eq_getElem?_getD, List.getElem?_eq_getElem h]
  exact iA_lt es n _ (List.getElem_mem h)
theorem iB_getD_lt (es : List Ent) (n k : Nat) (h : k < (iB es n).length) : (iB es n).getD k 0 < n := by
  rw [List.getD_eq_getElem?_getD, List.getElem?_eq_getElem h]
  exact iB_lt es n _ (List.getElem_mem h)
/-- Coins, if there are any. -/
def cG (to' n : Int) : List Gi := if 0 < n then [⟨to', 0, n⟩] else []
theorem cG_le (to' n : Int) : (cG to' n).length ≤ 1 := by unfold cG; split <;> simp
/-- The gifts of the pairs that deal, at the price P: asks A i, bids B i. -/
def endD (es : List Ent) (A B : Nat → Nat) (P : Int) : Nat → List Gi
  | 0 => []
  | i + 1 => ((endD es A B P i ++ [⟨(entN es (B i)).acc, (entN es (A i)).item, 0⟩]) ++ cG (entN es (A i)).acc P) ++ cG (entN es (B i)).acc (IntKind.u64.wrap ((entN es (B i)).coins - P))
theorem endD_le (es : List Ent) (A B : Nat → Nat) (P : Int) : ∀ i, (endD es A B P i).length ≤ 3 * i
  | 0 => Nat.le_refl _
  | i + 1 => by
    have h1 := endD_le es A B P i
    have h2 := cG_le (entN es (A i)).acc P
    have h3 := cG_le (entN es (B i)).acc (IntKind.u64.wrap ((entN es (B i)).coins - P))
    simp only [endD, List.length_append, List.length_singleton]
    omega
/-- Who has dealt. -/
def dlt (A B : Nat → Nat) : Nat → Nat → Bool
  | 0 => fun _ => false
  | i + 1 => updB (updB (dlt A B i) (A i)) (B i)
theorem updB_comm (s : Nat → Bool) (a b : Nat) : updB (updB s a) b = updB (updB s b) a := by
  funext j; unfold updB; split <;> split <;> rfl
/-- The gifts of those that go back. -/
def endE (es : List Ent) (D : Nat → Bool) (l : List Gi) : Nat → List Gi
  | 0 => l
  | j + 1 => (endE es D l j ++ if (entN es j).item ≠ 0 ∧ D j = false then [⟨(entN es j).acc, (entN es j).item, 0⟩] else []) ++ if (entN es j).item ≠ 0 ∨ D j = false then cG (entN es j).acc (entN es j).coins else []
theorem endE_le (es : List Ent) (D : Nat → Bool) (l : List Gi) : ∀ j, (endE es D l j).length ≤ l.length + 2 * j
  | 0 => Nat.le_refl _
  | j + 1 => by
    have h1 := endE_le es D l j
    have h2 := cG_le (entN es j).acc (entN es j).coins
    simp only [endE, List.length_append]
    split <;> split <;> simp <;> omega
theorem oneCell_gFlat (l : List Gi) : ∀ u ∈ gFlat l, u.oneCell' = true := by
  intro u hu
  obtain ⟨g, _, hg⟩ := List.mem_flatMap.1 hu
  simp only [Gi.cells, List.mem_cons, List.not_mem_nil, or_false] at hg
  rcases hg with rfl | rfl | rfl <;> rfl
theorem sz55 : (Try.prog.info? 55).map (·.size) = some 1 := by kernel_rfl
/-- The list of gifts in the variable t; the gifts lie from B on, in none of the blocks N. -/
def GB (t B : Nat) (N : Nat → Prop) (l : List Gi) (W : World) : Prop := ∃ a k, W.heap[t]? = some (.cells #[.slice a l.length k] 55 (0, 0)) ∧ W.ownsRow B 87 3 (.slice a l.length k) l.length (gFlat l) ∧ ∀ b, (Value.slice a l.length k).ownBlock = some b → ¬ N b
theorem GB.kept {t B : Nat} {N : Nat → Prop} {l : List Gi} {W W' : World} (h : GB t B N l W) (hb : Below W.heap.size W W') : GB t B N l W' := by
  obtain ⟨a, k, h1, h2, h3⟩ := h
  exact ⟨a, k, row_kept h1 hb, owns_below (B := 0) h2 hb, h3⟩
theorem GB.only {S : Nat → Prop} {t B : Nat} {N : Nat → Prop} {l : List Gi} {W W' : World} (h : GB t B N l W) (ho : Only S W W') (ht : ¬ S t) (hS : ∀ k, S k → k < B) : GB t B N l W' := by
  obtain ⟨a, k, h1, h2, h3⟩ := h
  exact ⟨a, k, ho.row h1 ht, ho.owns h2 (fun x hx hs => by have := (h2.lt x hx).1; have := hS x hs; omega), h3⟩
/-- In none of those blocks either, if they are new. -/
theorem GB.newN {t B : Nat} {N M : Nat → Prop} {l : List Gi} {W W' : World} (h : GB t B N l W) (hb : Below W.heap.size W W') (hM : ∀ b, M b → W.heap.size ≤ b) : GB t B M l W' := by
  obtain ⟨a, k, h1, h2, h3⟩ := h
  exact ⟨a, k, row_kept h1 hb, owns_below (B := 0) h2 hb, fun b e m => by have := (h2.lt b e).2; have := hM b m; omega⟩
theorem GB.noN {t B : Nat} {N : Nat → Prop} {l : List Gi} {W : World} (h : GB t B N l W) : GB t B (fun _ => False) l W := by
  obtain ⟨a, k, h1, h2, h3⟩ := h
  exact ⟨a, k, h1, h2, fun b _ m => m⟩
/-- A gift more. -/
theorem GB.next {t B : Nat} {N : Nat → Prop} {l : List Gi} {g : Gi} {w W1 W2 W3 : World} {a a7 : Option Addr} {k c7 : Nat} (hr : w.heap[t]? = some (.cells #[.slice a l.length k] 55 (0, 0))) (ho : w.ownsRow B 87 3 (.slice a l.length k) l.length (gFlat l))
    (hn : ∀ b, (Value.slice a l.length k).ownBlock = some b → ¬ N b) (ht : t < B) (hN : ∀ b, N b → b < w.heap.size) (hb : Below w.heap.size w W1) (ho7 : W2.ownsRow B 87 3 (.slice a7 (l.length + 1) c7) (l.length + 1) (gFlat l ++ gFlat [g]))
    (hg7 : W1.grownBy W2 (Value.slice a l.length k).ownBlock) (hl7 : (Value.slice a7 (l.length + 1) c7).ownBlock = (Value.slice a l.length k).ownBlock ∨ (Value.slice a7 (l.length + 1) c7).ownBlock = some W1.heap.size)
    (hp : Put W2 t (.cells #[.slice a7 (l.length + 1) c7] 55) W3) : GB t B N (l ++ [g]) W3 ∧ Only (fun x => x = t ∨ (B ≤ x ∧ ¬ N x)) w W3 := by
  have e : (l ++ [g]).length = l.length + 1 := by simp
  refine ⟨⟨a7, c7, ?_, ?_, ?_⟩, ?_⟩
  · rw [e]; exact hp.at'
  · rw [e, gFlat_append]
    exact ho7.kept hp.grown (.inr (fun e => by have := (ho7.lt _ e).1; omega))
  · rw [e]
    intro b hb1 hb2
    rcases hl7 with h | h
    · exact hn b (h ▸ hb1) hb2
    · rw [h] at hb1; injection hb1 with hb1; have := hN b hb2; have := hb.size; omega
  · refine ((Only.of_below (S := fun x => x = t ∨ (B ≤ x ∧ ¬ N x)) hb).trans (Only.of_grown (S := fun x => x = t ∨ (B ≤ x ∧ ¬ N x)) hg7 (fun k hk => .inr ⟨(ho.lt k hk).1, hn k hk⟩)) (fun k hk => .inl hk)).trans (T := fun x => x = t ∨ (B ≤ x ∧ ¬ N x)) (hp.only.mono fun k hk => .inl hk) (fun k hk => .inl hk)
set_option maxRecDepth 100000 in
set_option maxHeartbeats 4000000 in
theorem coins_any (to' n : Int) (t B : Nat) (N : Nat → Prop) (l : List Gi) (w : World) (h : GB t B N l w) (ht : t < B) (hB : B ≤ w.heap.size) (hN : ∀ b, N b → b < w.heap.size) (hl : l.length ≤ 1000000) :
    Calls Try.prog 52 #[.int .i64 to', .int .u64 n, .pointer (some ⟨t, 0, none⟩)] w fun r w' => r = .returned (.tuple #[]) ∧ GB t B N (l ++ cG to' n) w' ∧ Only (fun x => x = t ∨ (B ≤ x ∧ ¬ N x)) w w' := by
  have HG := Lib.hid h
  have HN := Lib.hid hN
  clear h hN
  go_enter Try.func52, Try.ntmps52
  by_cases h0 : 0 < n
  · have t0 : decide (n > 0) = true := decide_eq_true h0
    have HC := Lib.hid (show cG to' n = [⟨to', 0, n⟩] from if_pos h0)
    clear h0
    obtain ⟨a, k, hr, ho, hn⟩ := HG.out
    have HR := Lib.hid hr
    have HO := Lib.hid ho
    have HNN := Lib.hid hn
    have z0 : w.cell? ⟨t, 0, none⟩ = some (.slice a l.length k) := by rw [cell_of_row _ _ _ _ _ _ hr]; rfl
    clear hr ho hn
    have hbz := (Below.refl w.heap.size w).alloc (Nat.le_refl _) (.cells #[.int .i64 to', .int .i64 0, .int .u64 n] 87)
    have HBZ := Lib.hid hbz
    clear hbz
    go_wp2_with (at_builtin; refine wpList_append_sl_at rfl _ _ 55 rfl B 87 (.agg #[.int .i64 0, .int .i64 0, .int .u64 0]) 3 24 Try.underlying55 infoG rfl (by decide) _ l.length (gFlat l) rfl (HO.out.alloc _) (some ⟨w.heap.size, 0, none⟩) 1 1 (gFlat [⟨to', 0, n⟩]) rfl (fun h => by cases h) ?a1 (sl_new _ _ _ _) (oneCell_gFlat _) ?a2 ?a3 ?a4 ?a5)
    case a1 => rfl
    case a2 => unfold maxLen; omega
    case a3 => omega
    case a4 => simp only [World.size_alloc]; omega
    intro v7 w7 ho7 hg7 hl7
    obtain ⟨a7, c7, rfl, _⟩ := Go.K.owns_slice ho7
    have HA7 := Lib.hid (And.intro ho7 (And.intro hg7 hl7))
    have hr7 := row_past (row_kept HR.out HBZ.out) hg7 (fun h => by have := (HO.out.lt _ h.symm).1; omega)
    clear ho7 hg7 hl7 z0
    go_wp2_with ((with_reducible refine at_store_op ?_); refine wpList_store_lit 55 t 0 #[.slice a7 (l.length + 1) c7] (.slice a7 (l.length + 1) c7) hr7 sz55 (Nat.le_of_ble_eq_true rfl) rfl rfl ?_ ?_ ?_; exact rfl; exact rfl; intro w8 hp8)
    refine bodyPost_end (results_none Try.results52 _ _ _) rfl ⟨rfl, ?_⟩
    rw [HC.out]
    exact GB.next HR.out HO.out HNN.out ht HN.out HBZ.out HA7.out.1 HA7.out.2.1 (by rw [World.size_alloc]; exact HA7.out.2.2) hp8
  · have t0 : decide (n > 0) = false := decide_eq_false h0
    have HC := Lib.hid (show cG to' n = [] from if_neg h0)
    clear h0
    go_wp2
    exact bodyPost_end (results_none Try.results52 _ _ _) rfl ⟨rfl, by rw [HC.out, List.append_nil]; exact HG.out, Only.refl _ _⟩
end Go.Proofs.Ytbggibdldadpiaa
