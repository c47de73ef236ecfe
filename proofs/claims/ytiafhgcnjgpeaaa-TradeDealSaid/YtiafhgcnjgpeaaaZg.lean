/-
  Layer 20: gifts told anew, one behind the other.
-/
import Derived.Test.YtiafhgcnjgpeaaaZf
namespace Go.Proofs.Ytiafhgcnjgpeaaa
open Go.RowKit Go.K
set_option linter.unusedVariables false
set_option linter.unusedSimpArgs false

/-- The first i gifts told anew. -/
def mixG (t : Int) (l : List Gi) (i : Nat) : List Gi := setTo t (l.take i) ++ l.drop i
theorem mixG_zero (t : Int) (l : List Gi) : mixG t l 0 = l := by simp [mixG, setTo]
theorem mixG_all (t : Int) (l : List Gi) (i : Nat) (h : l.length ≤ i) : mixG t l i = setTo t l := by
  unfold mixG
  rw [List.take_of_length_le h, List.drop_of_length_le h, List.append_nil]
theorem setTo_length (t : Int) (l : List Gi) : (setTo t l).length = l.length := by simp [setTo]
theorem mixG_length (t : Int) (l : List Gi) (i : Nat) : (mixG t l i).length = l.length := by
  unfold mixG
  rw [List.length_append, setTo_length, List.length_take, List.length_drop]
  omega
theorem mixG_set (t : Int) (l : List Gi) (i : Nat) (h : i < l.length) : (gFlat (mixG t l i)).set (i * 3) (.int .i64 t) = gFlat (mixG t l (i + 1)) := by
  unfold mixG
  rw [List.drop_eq_getElem_cons h, List.take_succ_eq_append_getElem h]
  have hl : (gFlat (setTo t (l.take i))).length = i * 3 := by rw [gFlat_length, setTo_length, List.length_take]; omega
  have e1 : setTo t (l.take i ++ [l[i]]) = setTo t (l.take i) ++ [⟨t, l[i].item, l[i].coins⟩] := List.map_append
  rw [e1, gFlat_append, gFlat_append, gFlat_append, List.append_assoc, List.set_append_right _ _ (by omega), hl, Nat.sub_self]
  rfl
theorem mixG_at (t : Int) (l : List Gi) (i : Nat) (h : i < l.length) : (gFlat (mixG t l i))[i * 3]? = some (.int .i64 l[i].to) := by
  have h1 := gFlat_get (mixG t l i) i 0 (by rw [mixG_length]; exact h) (by omega)
  rw [Nat.add_zero] at h1
  rw [h1]
  have h2 : (mixG t l i)[i]'(by rw [mixG_length]; exact h) = l[i] := by
    unfold mixG
    rw [List.getElem_append_right (by rw [setTo_length, List.length_take]; omega)]
    simp only [setTo_length, List.length_take, Nat.min_eq_left (Nat.le_of_lt h), Nat.sub_self, List.getElem_drop, Nat.add_zero]
  rw [h2]; rfl
/-- A row of gifts of which the first i are told anew, from the world w0 on. -/
def MixR (w0 : World) (gb : Nat) (t : Int) (l : List Gi) (i : Nat) (W : World) : Prop :=
  (∃ cur, W.heap[gb]? = some (.cells cur 56 (0, 0)) ∧ l.length * 3 ≤ cur.size ∧ cur.toList.take (l.length * 3) = gFlat (mixG t l i)) ∧ Only (· = gb) w0 W
theorem MixR.start {W : World} {gb cap B : Nat} {t : Int} {l : List Gi} (h : W.ownsRow B 56 3 (.slice (some ⟨gb, 0, none⟩) l.length cap) l.length (gFlat l)) (hn : 0 < l.length) : MixR W gb t l 0 W := by
  obtain ⟨g, cap', cur, hv, hg, hr, hle, hcm, hsz, htk⟩ := owns_cases h hn
  injection hv with h1 h2 h3
  injection h1 with h1
  injection h1 with h1 _ _
  subst h1
  refine ⟨⟨cur, hr, by rw [hsz]; omega, ?_⟩, Only.refl _ _⟩
  rw [mixG_zero]; exact htk
theorem MixR.sl {w0 W : World} {gb : Nat} {t : Int} {l : List Gi} {i : Nat} (h : MixR w0 gb t l i W) : Sl W (some ⟨gb, 0, none⟩) (gFlat (mixG t l i)) := by
  obtain ⟨⟨cur, hr, hsz, htk⟩, _⟩ := h
  intro _
  refine ⟨gb, 0, rfl, fun j hj => ?_⟩
  rw [gFlat_length, mixG_length] at hj
  rw [Nat.zero_add, cell_of_row _ _ _ _ _ _ hr, ← htk, List.getElem?_take_of_lt hj, Array.getElem?_toList]
theorem MixR.step {w0 W : World} {gb : Nat} {t : Int} {l : List Gi} {i : Nat} (h : MixR w0 gb t l i W) (hi : i < l.length) : W.cell? ⟨gb, i * 3, none⟩ = some (.int .i64 l[i].to) ∧ W.frozen? ⟨gb, i * 3, none⟩ = false ∧
    MixR w0 gb t l (i + 1) (W.setCell ⟨gb, i * 3, none⟩ (.int .i64 t)) := by
  obtain ⟨⟨cur, hr, hsz, htk⟩, ho⟩ := h
  refine ⟨?_, frozen_of_row _ _ _ _ _ hr, ⟨⟨cur.setIfInBounds (i * 3) (.int .i64 t), heap_setCell_same _ _ _ _ _ _ hr, by simpa using hsz, ?_⟩, ?_⟩⟩
  · rw [cell_of_row _ _ _ _ _ _ hr, ← Array.getElem?_toList, ← mixG_at t l i hi, ← htk, List.getElem?_take_of_lt (by omega)]
  · rw [← mixG_set t l i hi, ← htk]
    rw [Array.toList_setIfInBounds, List.take_set]
  · exact ho.trans (Only.of_grown (S := (· = gb)) (grown_set (grown_refl W (some gb)) _ _) (fun k hk => by injection hk with e; exact e.symm)) (fun k hk => .inl hk)
theorem sl_prefix {W : World} {a : Option Addr} {xs ys : List Value} (h : Sl W a (xs ++ ys)) : Sl W a xs := by
  intro hne
  obtain ⟨b, off, he, hc⟩ := h (fun e => hne (List.append_eq_nil_iff.1 e).1)
  refine ⟨b, off, he, fun i hi => ?_⟩
  rw [hc i (by rw [List.length_append]; omega), List.getElem?_append_left hi]
theorem sl_rest {W : World} {a : Option Addr} {A B : List Gi} {n : Nat} (h : Sl W a (gFlat (A ++ B))) (hn : (A ++ B).length = n) : Sl W (piece a A.length n 3) (gFlat B) := by
  have h1 := sl_piece h A.length n 3 (by rw [gFlat_length, hn]; exact Nat.le_refl _)
  rw [gFlat_append, List.drop_left' (gFlat_length A)] at h1
  exact h1
theorem gV_ne {e : Ent} {t : Int} (h : ¬ (e.item = 0 ∧ e.coins = 0)) : 0 < (gV e t).length := by
  unfold gV
  by_cases h1 : e.item = 0 <;> by_cases h2 : e.coins = 0 <;> simp [h1, h2]
  exact h ⟨h1, h2⟩
theorem gV_len (e : Ent) (s t : Int) : (gV e s).length = (gV e t).length := by
  unfold gV
  by_cases h1 : e.item = 0 <;> by_cases h2 : e.coins = 0 <;> simp [h1, h2]
theorem run_slice_hi {P : Program} {t e : TypeId} {size : Nat} (h : P.underlying t = some (.slice e)) (hz : (P.info? e).map (·.size) = some size) (a : Option Addr) (ha : ∃ b, a = some ⟨b, 0, none⟩) (len cap : Nat) (k : IntKind) (hi : Int) (n : Nat)
    (h1 : hi = n) (h2 : n ≤ cap) (w : World) :
    (Instr.slice t (.slice a len cap) none (some (.int k hi)) none).run P w = .ok (.slice a n cap) w := by
  obtain ⟨i, hi', hs⟩ := Option.map_eq_some_iff.1 hz
  obtain ⟨b, rfl⟩ := ha
  subst h1 hs
  have c1 : (0 : Int) ≤ (n : Int) ∧ (n : Int) ≤ (cap : Int) := by omega
  have c2 : (0 : Int) ≤ (n : Int) := by omega
  simp only [Instr.slice, Instr.sliceBounds, Instr.sliceBound, asIntOf, run_underlying h, sizeOf, typeInfo, Sem.run_bind, Sem.run_pure, Result.andThen_ok, if_pos c1, Int.toNat_natCast, Option.isSome]
  by_cases hc : cap = 0 <;> simp [hi', hc, Addr.add]
end Go.Proofs.Ytiafhgcnjgpeaaa
