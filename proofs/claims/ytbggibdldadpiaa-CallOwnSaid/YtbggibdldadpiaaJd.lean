/-
  Layer 19: lists that came in, opened; one cell of a lent list set; a deal's and its like's parts.
-/
import Derived.Test.YtbggibdldadpiaaJc
import Derived.Test.YtbggibdldadpiaaGen
namespace Go.Proofs.Ytbggibdldadpiaa
open Go.ChangeShapes Go.WideShapes Go.ChangeAt Go.RowKit Go.K
set_option linter.unusedVariables false
set_option linter.unusedSimpArgs false
theorem open_u64s {H : Type} {enc : TypeId × Value → H} {W : World} {a : Option Addr} {len cap : Nat} {d : DataW H} {p : List MemPlace}
    (h : DataW.Trod enc Try.prog W 0 (fun _ => true) true 22 (.slice a len cap) d p)
    {ts : List TypeId} {ds : List (DataW H)} (hsz : (DataW.weightsEach Try.prog ts ds).all (· ≤ reachBytes) = true) {j : Nat} (hj : ts[j]? = some 22) (hd : ds[j]? = some d) :
    ∃ l : List (BitVec 64), len = l.length ∧ Sl W a (vQ l) ∧ l.length ≤ cap ∧ cap ≤ 17592186043904 ∧ (a = none → l.length = 0 ∧ cap = 0) := by
  obtain ⟨fuel, hf⟩ := h
  have hby : Try.prog.bytesOf 23 = 8 := by kernel_rfl
  rcases open_ints Try.underlying22 Try.underlying23 (by kernel_rfl) hf with ⟨hcs, hx⟩ | ⟨x, len', cap', zs, hcs, _, hl, hm, hz, hx, hcell, hwz⟩
  · simp [Value.cells] at hcs
    obtain ⟨rfl, rfl, rfl⟩ := hcs
    exact ⟨[], rfl, Sl.nil _ _, Nat.le_refl _, by omega, fun _ => ⟨rfl, rfl⟩⟩
  · simp [Value.cells] at hcs
    obtain ⟨rfl, rfl, rfl⟩ := hcs
    simp only [Prod.mk.injEq] at hx
    obtain ⟨rfl, rfl⟩ := hx
    simp only [if_true] at hz
    have hr := sized_slice hsz hj hd Try.underlying22
    rw [hby] at hr
    simp only [lits, List.length_map, List.length_take, List.length_drop, reachBytes] at hr
    have hlen : ((zs.take len).map (BitVec.ofInt 64)).length = len := by simp; omega
    refine ⟨(zs.take len).map (BitVec.ofInt 64), hlen.symm, ?_, by omega, by omega, fun h => by cases h⟩
    intro hne
    have h0 : 0 < len := by
      rcases Nat.eq_zero_or_pos len with h' | h'
      · subst h'; exact absurd (by simp [vQ]) hne
      · exact h'
    obtain ⟨b, off, spot⟩ := x
    have hspot : spot = none := by simpa [Addr.add] using World.cell?_spot (hcell 0 (by omega))
    subst hspot
    refine ⟨b, off, rfl, fun i hi => ?_⟩
    rw [vQ_length, hlen] at hi
    have h1 := hcell i (by omega)
    rw [add_spot'] at h1
    have hz1 : zs[i]? = some zs[i] := List.getElem?_eq_getElem (by omega)
    have hw := hwz zs[i] (List.getElem_mem _)
    have hb : 0 ≤ zs[i] ∧ zs[i] ≤ 18446744073709551615 := by simpa [Lit.wf, IntKind.min, IntKind.max, IntKind.signed, IntKind.bits] using hw
    have hu : U64 (BitVec.ofInt 64 zs[i]) = zs[i] := U64_ofInt_of _ hb.1 hb.2
    rw [h1]
    simp only [vQ, List.getElem?_map, List.getElem?_take_of_lt hi, hz1, Option.map_some, hu, List.getD, Option.getD_some]
theorem open_i64s {H : Type} {enc : TypeId × Value → H} {W : World} {a : Option Addr} {len cap : Nat} {d : DataW H} {p : List MemPlace}
    (h : DataW.Trod enc Try.prog W 0 (fun _ => true) true 24 (.slice a len cap) d p)
    {ts : List TypeId} {ds : List (DataW H)} (hsz : (DataW.weightsEach Try.prog ts ds).all (· ≤ reachBytes) = true) {j : Nat} (hj : ts[j]? = some 24) (hd : ds[j]? = some d) :
    ∃ l : List Int, len = l.length ∧ Sl W a (vI l) ∧ l.length ≤ cap ∧ cap ≤ 17592186043904 ∧ (a = none → l.length = 0 ∧ cap = 0) := by
  obtain ⟨fuel, hf⟩ := h
  have hby : Try.prog.bytesOf 3 = 8 := by kernel_rfl
  rcases open_ints Try.underlying24 Try.underlying3 (by kernel_rfl) hf with ⟨hcs, hx⟩ | ⟨x, len', cap', zs, hcs, _, hl, hm, hz, hx, hcell, hwz⟩
  · simp [Value.cells] at hcs
    obtain ⟨rfl, rfl, rfl⟩ := hcs
    exact ⟨[], rfl, Sl.nil _ _, Nat.le_refl _, by omega, fun _ => ⟨rfl, rfl⟩⟩
  · simp [Value.cells] at hcs
    obtain ⟨rfl, rfl, rfl⟩ := hcs
    simp only [Prod.mk.injEq] at hx
    obtain ⟨rfl, rfl⟩ := hx
    simp only [if_true] at hz
    have hr := sized_slice hsz hj hd Try.underlying24
    rw [hby] at hr
    simp only [lits, List.length_map, List.length_take, List.length_drop, reachBytes] at hr
    have hlen : (zs.take len).length = len := by simp; omega
    refine ⟨zs.take len, hlen.symm, ?_, by omega, by omega, fun h => by cases h⟩
    intro hne
    have h0 : 0 < len := by
      rcases Nat.eq_zero_or_pos len with h' | h'
      · subst h'; exact absurd (by simp [vI]) hne
      · exact h'
    obtain ⟨b, off, spot⟩ := x
    have hspot : spot = none := by simpa [Addr.add] using World.cell?_spot (hcell 0 (by omega))
    subst hspot
    refine ⟨b, off, rfl, fun i hi => ?_⟩
    rw [vI_length, hlen] at hi
    have h1 := hcell i (by omega)
    rw [add_spot'] at h1
    have hz1 : zs[i]? = some zs[i] := List.getElem?_eq_getElem (by omega)
    rw [h1]
    simp only [vI, List.getElem?_map, List.getElem?_take_of_lt hi, hz1, Option.map_some, List.getD, Option.getD_some]
theorem vQ_set (l : List (BitVec 64)) (k : Nat) (c : BitVec 64) : (vQ l).set k (.int .u64 (U64 c)) = vQ (l.set k c) := by simp [vQ, List.map_set]
theorem LentQ.set {w : World} {l : List (BitVec 64)} {g cap : Nat} (h : LentQ w l g cap) (k : Nat) (hk : k < l.length) (c : BitVec 64) : LentQ (w.setCell ⟨g, k, none⟩ (.int .u64 (U64 c))) (l.set k c) g cap := by
  obtain ⟨cur, hh, h1, h2, h3, h4⟩ := h
  refine ⟨cur.setIfInBounds k (.int .u64 (U64 c)), heap_setCell_same _ _ _ _ _ _ hh, by rw [List.length_set]; exact h1, h2, by rw [Array.size_setIfInBounds]; exact h3, ?_⟩
  rw [List.length_set, Array.toList_setIfInBounds, List.take_set, h4, vQ_set, List.set_append, if_pos hk]
theorem LentQ.cap {w : World} {l : List (BitVec 64)} {g cap : Nat} (h : LentQ w l g cap) : l.length + 40 ≤ cap ∧ cap ≤ maxLen := by obtain ⟨_, _, h1, h2, _⟩ := h; exact ⟨h1, h2⟩
theorem LentQ.frozen {w : World} {l : List (BitVec 64)} {g cap : Nat} (h : LentQ w l g cap) (k : Nat) : w.frozen? ⟨g, k, none⟩ = false := by
  obtain ⟨cur, hh, _⟩ := h; exact frozen_of_row _ _ k _ _ hh
theorem LentQ.cell {w : World} {l : List (BitVec 64)} {g cap : Nat} (h : LentQ w l g cap) (k : Nat) (hk : k < l.length) : w.cell? ⟨g, k, none⟩ = some (.int .u64 (lq l k)) := by
  obtain ⟨b, o, he, hc⟩ := vQ_at h.sl k hk
  injection he with he
  injection he with e1 e2 e3
  rw [← e1, ← e2, Nat.zero_add] at hc
  exact hc
/-- A slice that was grown from nothing. -/
theorem app_slice {W : World} {B : Nat} {t : TypeId} {v : Value} {n : Nat} {xs : List Value} (h : W.ownsRow B t 1 v n xs) (hx : xs.length = n) : ∃ ad cp, v = .slice ad n cp ∧ n ≤ cp ∧ Sl W ad xs ∧ (∀ x, ad = some x → B ≤ x.block) := by
  rcases h.2 with ⟨hv, h0⟩ | ⟨g2, cap2, cur, hv, hg2, hh, hnc, hcm, hcs, htk⟩
  · refine ⟨none, 0, ?_, by omega, ?_, fun x hx => by cases hx⟩
    · rw [hv]; congr 1 <;> omega
    · have : xs = [] := List.eq_nil_of_length_eq_zero (by omega)
      rw [this]; exact Sl.nil _ _
  · subst hv
    exact ⟨_, cap2, by congr 1 <;> omega, by omega, by simpa using sl_of_owns h, fun x hx => by injection hx with hx; rw [← hx]; exact hg2⟩
theorem owns_sl {W : World} {B : Nat} {t : TypeId} {a : Option Addr} {n c : Nat} {xs : List Value} (h : W.ownsRow B t 1 (.slice a n c) n xs) (hx : xs.length = n) : Sl W a xs := by
  obtain ⟨ad, cp, e, _, hs, _⟩ := app_slice h hx
  injection e with e1 e2 e3
  rw [e1]; exact hs
theorem kv_unique {xs ys : List (BitVec 64)} {da db : Nat → Nat} {k k2 : Nat} (h1 : KV xs ys da db k) (h2 : KV xs ys da db k2) : k = k2 := by
  rcases Nat.lt_trichotomy k k2 with h | h | h
  · exact absurd (h2.2.2.1 k h) (h1.2.2.2 (by have := h2.1; omega) (by have := h2.2.1; omega))
  · exact h
  · exact absurd (h1.2.2.1 k2 h) (h2.2.2.2 (by have := h1.1; omega) (by have := h1.2.1; omega))
theorem DealV.parts {n pay get B : Nat} {da db : Nat → Nat} {W : World} {v : Value} (h : DealV n da db pay get B W v) : ∃ a1 c1 a2 c2, v = .agg (dlA a1 c1 a2 c2 n pay get) ∧ Sl W a1 (rowN da n) ∧ Sl W a2 (rowN db n) := by
  obtain ⟨a1, c1, a2, c2, M, h1, h2, h3, h4, h5⟩ := h
  exact ⟨a1, c1, a2, c2, h1, owns_sl h3 (rowN_len _ _), owns_sl h5 (rowN_len _ _)⟩
end Go.Proofs.Ytbggibdldadpiaa
