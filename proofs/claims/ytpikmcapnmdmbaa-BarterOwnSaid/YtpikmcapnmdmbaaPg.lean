/-
  Layer 22, no program in sight: who of a contract's entries is in the meet, and what the end gives.
-/
import Derived.Test.YtpikmcapnmdmbaaVa
import Derived.Test.YtpikmcapnmdmbaaPd
namespace Go.Proofs.Ytpikmcapnmdmbaa
open Go.RowKit Go.K
set_option linter.unusedVariables false
set_option linter.unusedSimpArgs false
/-- Is entry number i (of these items) one of the meet? -/
def isM (L : List Int) (i : Nat) : Bool := decide (1 ≤ L.getD i 0) && !(decide (L.getD i 0 ∈ L.take i))
def mIx (L : List Int) (k : Nat) : List Nat := (List.range k).filter (isM L)
theorem mIx_succ (L : List Int) (k : Nat) : mIx L (k + 1) = mIx L k ++ if isM L k = true then [k] else [] := by
  unfold mIx
  rw [List.range_succ, List.filter_append]
  congr 1
  rw [List.filter_cons]; split <;> rfl
def mIs (L : List Int) (k : Nat) : List Int := (mIx L k).map (L.getD · 0)
theorem mIs_succ (L : List Int) (k : Nat) : mIs L (k + 1) = mIs L k ++ if isM L k = true then [L.getD k 0] else [] := by
  unfold mIs
  rw [mIx_succ, List.map_append]
  congr 1
  split <;> rfl
theorem mIs_length (L : List Int) (k : Nat) : (mIs L k).length = (mIx L k).length := by simp [mIs]
theorem mIx_le (L : List Int) (k : Nat) : (mIx L k).length ≤ k := by
  have := List.length_filter_le (isM L) (List.range k)
  simpa [mIx] using this
theorem take_succ_getD (L : List Int) (k : Nat) (h : k < L.length) : L.take (k + 1) = L.take k ++ [L.getD k 0] := by
  rw [List.take_succ_eq_append_getElem h, List.getD_eq_getElem?_getD, List.getElem?_eq_getElem h]; rfl
theorem mIs_mem (L : List Int) (x : Int) : ∀ k, k ≤ L.length → (x ∈ mIs L k ↔ x ∈ L.take k ∧ 1 ≤ x)
  | 0, _ => by simp [mIs, mIx]
  | k + 1, h => by
    rw [mIs_succ, List.mem_append, mIs_mem L x k (by omega), take_succ_getD L k (by omega), List.mem_append, List.mem_singleton]
    by_cases hm : isM L k = true
    · rw [if_pos hm, List.mem_singleton]
      have h1 : 1 ≤ L.getD k 0 := by simp [isM] at hm; simpa using hm.1
      constructor
      · rintro (⟨a, b⟩ | rfl)
        · exact ⟨.inl a, b⟩
        · exact ⟨.inr rfl, h1⟩
      · rintro ⟨a | rfl, b⟩
        · exact .inl ⟨a, b⟩
        · exact .inr rfl
    · rw [if_neg hm]
      constructor
      · rintro (⟨a, b⟩ | h)
        · exact ⟨.inl a, b⟩
        · cases h
      · rintro ⟨a | rfl, b⟩
        · exact .inl ⟨a, b⟩
        · refine .inl ⟨?_, b⟩
          by_cases hi : L.getD k 0 ∈ L.take k
          · exact hi
          · exact absurd (show isM L k = true by unfold isM; rw [decide_eq_true b, decide_eq_false hi]; rfl) hm
theorem mIs_nodup (L : List Int) : ∀ k, k ≤ L.length → (mIs L k).Nodup
  | 0, _ => by simp [mIs, mIx]
  | k + 1, h => by
    rw [mIs_succ]
    by_cases hm : isM L k = true
    · rw [if_pos hm, List.nodup_append]
      refine ⟨mIs_nodup L k (by omega), by simp, fun a ha b hb e => ?_⟩
      rw [List.mem_singleton] at hb
      subst hb; subst e
      have h2 := ((mIs_mem L _ k (by omega)).1 ha).1
      unfold isM at hm
      rw [decide_eq_true h2] at hm
      simp at hm
    · rw [if_neg hm, List.append_nil]; exact mIs_nodup L k (by omega)
theorem mIs_pos (L : List Int) (k : Nat) (h : k ≤ L.length) : ∀ x ∈ mIs L k, 1 ≤ x := fun x hx => ((mIs_mem L x k h).1 hx).2
theorem mIs_meet (L : List Int) (k : Nat) (h : k ≤ L.length) : MeetP (mIs L k) (mIx L k).length := ⟨mIs_length L k, mIs_nodup L k h, mIs_pos L k h⟩
/-- What a meet's answer is. -/
def Got (is : List Int) (ws : List (List Int)) (G : Nat → Int) : Prop := ∃ (cs : List (List Nat)) (D : Nat → Bool), RunTo is.length (pts is ws) cs D ∧ (∀ i, i < is.length → D i = true) ∧ GotOk is cs G
theorem got_unique {is : List Int} {ws : List (List Int)} {G G' : Nat → Int} (h : Got is ws G) (h' : Got is ws G') : ∀ k, k < is.length → G k = G' k := by
  obtain ⟨cs, D, hr, ha, hg⟩ := h
  obtain ⟨cs', D', hr', ha', hg'⟩ := h'
  have e := run_unique hr hr' ha ha'
  subst e
  intro k hk
  obtain ⟨c, hc, hkc⟩ := hr.gone' k (ha k hk)
  obtain ⟨q, hq, rfl⟩ := mem_getD hkc
  rw [hg c hc q hq, hg' c hc q hq]
theorem got_perm {is : List Int} {ws : List (List Int)} {G : Nat → Int} (h : Got is ws G) (hn : is.Nodup) : ((List.range is.length).map G).Perm is := by
  obtain ⟨cs, D, hr, ha, hg⟩ := h
  have A := ans_of hr ha hn hg
  have h1 : (List.range is.length).map G = ((List.range is.length).map (nextOf cs)).map (is.getD · 0) := by
    rw [List.map_map]
    apply List.map_congr_left
    intro k hk
    exact A.got k (List.mem_range.1 hk)
  have h2 : ((List.range is.length).map (nextOf cs)).Perm (List.range is.length) := by
    rw [List.perm_ext_iff_of_nodup ?_ List.nodup_range]
    · intro i
      constructor
      · intro hi
        obtain ⟨k, hk, rfl⟩ := List.mem_map.1 hi
        exact List.mem_range.2 (A.lt k (List.mem_range.1 hk))
      · intro hi
        obtain ⟨k, hk, e, _⟩ := A.once i (List.mem_range.1 hi)
        exact List.mem_map.2 ⟨k, List.mem_range.2 hk, e⟩
    · rw [List.nodup_iff_pairwise_ne, List.pairwise_map]
      refine List.Pairwise.imp_of_mem ?_ (List.nodup_range (n := is.length))
      intro a b ha' hb' hab e
      obtain ⟨k, _, _, hu⟩ := A.once (nextOf cs a) (A.lt a (List.mem_range.1 ha'))
      exact hab ((hu a (List.mem_range.1 ha') rfl).trans (hu b (List.mem_range.1 hb') e.symm).symm)
  have h3 : (List.range is.length).map (is.getD · 0) = is := by
    apply List.ext_getElem (by simp)
    intro i h1 h2
    simp [List.getD_eq_getElem?_getD, List.getElem?_eq_getElem h2]
  rw [h1]
  exact (h2.map _).trans (by rw [h3])
/-- What each entry gets. -/
def itemAt (L : List Int) (G : Nat → Int) (i : Nat) : Int := if isM L i = true then G (mIx L i).length else L.getD i 0
theorem map_mIx (L : List Int) (G : Nat → Int) : ∀ k, (mIx L k).map (itemAt L G) = (List.range (mIx L k).length).map G
  | 0 => rfl
  | k + 1 => by
    rw [mIx_succ, List.map_append, List.length_append, map_mIx L G k]
    by_cases hm : isM L k = true
    · rw [if_pos hm]
      simp only [List.map_cons, List.map_nil, List.length_cons, List.length_nil, Nat.zero_add]
      rw [List.range_succ, List.map_append]
      simp [itemAt, hm]
    · rw [if_neg hm]; simp
/-- What all get is what all brought. -/
theorem items_perm (L : List Int) (ws : List (List Int)) (G : Nat → Int) (h : Got (mIs L L.length) ws G) : ((List.range L.length).map (itemAt L G)).Perm L := by
  have hn := mIs_nodup L L.length (Nat.le_refl _)
  have hp := got_perm h hn
  rw [mIs_length, ← map_mIx] at hp
  have hf := (List.filter_append_perm (isM L) (List.range L.length)).map (itemAt L G)
  have hL : (List.range L.length).map (L.getD · 0) = L := by
    apply List.ext_getElem (by simp)
    intro i h1 h2
    simp [List.getD_eq_getElem?_getD, List.getElem?_eq_getElem h2]
  have hf2 := (List.filter_append_perm (isM L) (List.range L.length)).map (L.getD · 0)
  rw [List.map_append] at hf hf2
  have he : ((List.range L.length).filter fun x => !isM L x).map (itemAt L G) = ((List.range L.length).filter fun x => !isM L x).map (L.getD · 0) := by
    apply List.map_congr_left
    intro i hi
    have : isM L i = false := by simpa using (List.mem_filter.1 hi).2
    simp [itemAt, this]
  rw [he] at hf
  rw [hL] at hf2
  exact hf.symm.trans ((List.Perm.append_right _ hp).trans hf2)
/-- What is given for one entry. -/
def giftE (e : Ent) (x : Int) : List Gi := (if x ≠ 0 then [⟨e.acc, x, 0⟩] else []) ++ (if e.coins > 0 then [⟨e.acc, 0, e.coins⟩] else [])
def endG (es : List Ent) (L : List Int) (G : Nat → Int) : Nat → List Gi
  | 0 => []
  | k + 1 => endG es L G k ++ (match es[k]? with
    | some e => giftE e (itemAt L G k)
    | none => [])
theorem endG_succ (es : List Ent) (L : List Int) (G : Nat → Int) (k : Nat) (h : k < es.length) : endG es L G (k + 1) = endG es L G k ++ giftE es[k] (itemAt L G k) := by
  rw [endG, List.getElem?_eq_getElem h]
theorem endG_len (es : List Ent) (L : List Int) (G : Nat → Int) : ∀ k, (endG es L G k).length ≤ 2 * k
  | 0 => by simp [endG]
  | k + 1 => by
    rw [endG, List.length_append]
    have := endG_len es L G k
    have h2 : (match es[k]? with | some e => giftE e (itemAt L G k) | none => []).length ≤ 2 := by
      cases es[k]? with
      | none => simp
      | some e => simp only [giftE, List.length_append]; split <;> split <;> simp
    omega
/-- The items of gifts that are none. -/
def nz (l : List Int) : List Int := l.filter fun x => decide (x ≠ 0)
theorem nz_append (l m : List Int) : nz (l ++ m) = nz l ++ nz m := by simp [nz]
def sumC (l : List Int) : Int := l.foldr (· + ·) 0
theorem sumC_cons (x : Int) (l : List Int) : sumC (x :: l) = x + sumC l := rfl
theorem sumC_append (l m : List Int) : sumC (l ++ m) = sumC l + sumC m := by
  induction l with
  | nil => simp [sumC]
  | cons x l ih => rw [List.cons_append, sumC_cons, sumC_cons, ih]; omega
theorem giftE_items (e : Ent) (x : Int) : nz ((giftE e x).map Gi.item) = nz [x] := by
  unfold giftE nz
  by_cases h : x = 0
  · subst h; split <;> simp
  · split <;> split <;> simp_all
theorem giftE_coins (e : Ent) (x : Int) (h : 0 ≤ e.coins) : sumC ((giftE e x).map Gi.coins) = e.coins := by
  unfold giftE
  split <;> split <;> simp [sumC] <;> omega
theorem giftE_whole (e : Ent) (x : Int) : ∀ g ∈ giftE e x, (g.item = 0 ∧ g.coins ≠ 0) ∨ (g.item ≠ 0 ∧ g.coins = 0) := by
  intro g hg
  unfold giftE at hg
  rw [List.mem_append] at hg
  rcases hg with hg | hg
  · split at hg
    · rename_i h
      rw [List.mem_singleton] at hg
      subst hg
      exact .inr ⟨h, rfl⟩
    · cases hg
  · split at hg
    · rename_i h
      rw [List.mem_singleton] at hg
      subst hg
      exact .inl ⟨rfl, fun e => by simp only at e; omega⟩
    · cases hg
theorem endG_items (es : List Ent) (L : List Int) (G : Nat → Int) : ∀ k, k ≤ es.length → nz ((endG es L G k).map Gi.item) = nz ((List.range k).map (itemAt L G))
  | 0, _ => rfl
  | k + 1, h => by
    rw [endG_succ es L G k (by omega), List.map_append, nz_append, endG_items es L G k (by omega), giftE_items, List.range_succ, List.map_append, nz_append]; rfl
theorem endG_coins (es : List Ent) (L : List Int) (G : Nat → Int) (hc : ∀ e ∈ es, 0 ≤ e.coins) : ∀ k, k ≤ es.length → sumC ((endG es L G k).map Gi.coins) = sumC ((es.take k).map Ent.coins)
  | 0, _ => rfl
  | k + 1, h => by
    rw [endG_succ es L G k (by omega), List.map_append, sumC_append, endG_coins es L G hc k (by omega), giftE_coins _ _ (hc _ (List.getElem_mem (by omega))), List.take_succ_eq_append_getElem (by omega), List.map_append, sumC_append]
    simp [sumC]
theorem endG_whole (es : List Ent) (L : List Int) (G : Nat → Int) : ∀ k, ∀ g ∈ endG es L G k, (g.item = 0 ∧ g.coins ≠ 0) ∨ (g.item ≠ 0 ∧ g.coins = 0)
  | 0, g, hg => by cases hg
  | k + 1, g, hg => by
    rw [endG, List.mem_append] at hg
    rcases hg with hg | hg
    · exact endG_whole es L G k g hg
    · cases he : es[k]? with
      | none => rw [he] at hg; cases hg
      | some e => rw [he] at hg; exact giftE_whole e _ g hg
end Go.Proofs.Ytpikmcapnmdmbaa
