/-
  Layer 22, no program in sight: numbers taken out of a list one by one.
-/
import Derived.Test.YtpikmcapnmdmbaaPg
import Derived.Test.YtpikmcapnmdmbaaNum
namespace Go.Proofs.Ytpikmcapnmdmbaa
open Go.RowKit Go.K
set_option linter.unusedVariables false
set_option linter.unusedSimpArgs false
/-- The last place below k at which a number stands; -1: none. -/
def lastAt (O : List Int) (a : Int) : Nat → Int
  | 0 => -1
  | k + 1 => if O[k]? = some a then (k : Int) else lastAt O a k
theorem lastAt_lt (O : List Int) (a : Int) : ∀ k, -1 ≤ lastAt O a k ∧ lastAt O a k < k
  | 0 => by simp [lastAt]
  | k + 1 => by
    have := lastAt_lt O a k
    unfold lastAt
    split <;> omega
theorem lastAt_in (O : List Int) (a : Int) : ∀ k, (∃ j, j < k ∧ O[j]? = some a) → ∃ p : Nat, lastAt O a k = (p : Int) ∧ O[p]? = some a
  | 0, h => by obtain ⟨j, hj, _⟩ := h; omega
  | k + 1, h => by
    unfold lastAt
    by_cases hk : O[k]? = some a
    · rw [if_pos hk]; exact ⟨k, rfl, hk⟩
    · rw [if_neg hk]
      obtain ⟨j, hj, he⟩ := h
      refine lastAt_in O a k ⟨j, ?_, he⟩
      rcases Nat.lt_or_eq_of_le (Nat.le_of_lt_succ hj) with h1 | h1
      · exact h1
      · subst h1; exact absurd he hk
/-- The list behind taking out what stands at p: the last one goes there. -/
def popAt (O : List Int) (p : Nat) : List Int := (O.set p (O.getD (O.length - 1) 0)).dropLast
theorem popAt_length (O : List Int) (p : Nat) : (popAt O p).length = O.length - 1 := by simp [popAt]
theorem popAt_perm (O : List Int) (p : Nat) (a : Int) (h : O[p]? = some a) : O.Perm (a :: popAt O p) := by
  have hp : p < O.length := (List.getElem?_eq_some_iff.1 h).1
  have hne : O ≠ [] := fun e => by rw [e] at hp; simp at hp
  obtain ⟨i, z, rfl⟩ : ∃ i z, O = i ++ [z] := ⟨O.dropLast, O.getLast hne, (List.dropLast_concat_getLast hne).symm⟩
  have hz : (i ++ [z]).getD ((i ++ [z]).length - 1) 0 = z := by simp [List.getD_eq_getElem?_getD]
  unfold popAt
  rw [hz]
  by_cases hl : p < i.length
  · rw [List.set_append_left _ _ hl, List.dropLast_concat]
    rw [List.getElem?_append_left hl] at h
    obtain ⟨hlt, hv⟩ := List.getElem?_eq_some_iff.1 h
    have e1 : i = i.take p ++ a :: i.drop (p + 1) := by
      rw [← hv, ← List.drop_eq_getElem_cons hl, List.take_append_drop]
    have e2 : i.set p z = i.take p ++ z :: i.drop (p + 1) := List.set_eq_take_append_cons_drop ▸ by rw [if_pos hl]
    rw [e2]
    conv => lhs; rw [e1]
    have h1 : (i.take p ++ a :: i.drop (p + 1) ++ [z]).Perm (z :: (i.take p ++ a :: i.drop (p + 1))) := List.perm_append_comm
    refine h1.trans ?_
    refine (List.Perm.cons z List.perm_middle).trans ?_
    refine (List.Perm.swap a z _).trans ?_
    exact List.Perm.cons a List.perm_middle.symm
  · have he : p = i.length := by simp at hp; omega
    subst he
    rw [List.getElem?_append_right (Nat.le_refl _)] at h
    simp at h
    subst h
    rw [List.set_append_right _ _ (Nat.le_refl _)]
    simp only [Nat.sub_self, List.set_cons_zero, List.dropLast_concat]
    exact List.perm_append_comm
theorem sumC_bound (l : List Int) (h : ∀ x ∈ l, 0 ≤ x ∧ x ≤ 18446744073709551615) : 0 ≤ sumC l ∧ sumC l ≤ l.length * 18446744073709551615 := by
  induction l with
  | nil => simp [sumC]
  | cons x l ih =>
    have h1 := ih (fun y hy => h y (List.mem_cons_of_mem _ hy))
    have h2 := h x List.mem_cons_self
    rw [sumC_cons, List.length_cons]
    push_cast
    omega
theorem pw_big {n : Nat} (h : n < 79228162514264337593543950336) : n < Words.pw 900 := by
  have h1 : Words.pw 3 ≤ Words.pw 900 := Words.pw_le (by omega)
  have h2 : Words.pw 3 = 79228162514264337593543950336 := by rw [Words.pw_eq]
  omega
theorem sumC_small (l : List Int) (h : ∀ x ∈ l, 0 ≤ x ∧ x ≤ 18446744073709551615) (hl : l.length ≤ 100000) (k : Nat) : (sumC (l.take k)).natAbs < Words.pw 900 := by
  have h1 := sumC_bound (l.take k) (fun x hx => h x (List.mem_of_mem_take hx))
  have h2 : (l.take k).length ≤ 100000 := by rw [List.length_take]; omega
  apply pw_big
  omega
theorem sumC_succ (l : List Int) (k : Nat) (h : k < l.length) : sumC (l.take (k + 1)) = sumC (l.take k) + l[k] := by
  rw [List.take_succ_eq_append_getElem h, sumC_append]; simp [sumC]
theorem nz_succ (l : List Int) (k : Nat) (h : k < l.length) : nz (l.take (k + 1)) = nz (l.take k) ++ if l[k] ≠ 0 then [l[k]] else [] := by
  rw [List.take_succ_eq_append_getElem h, nz_append]
  congr 1
  unfold nz
  by_cases e : l[k] = 0 <;> simp [e]
theorem nz_length (l : List Int) : (nz l).length ≤ l.length := List.length_filter_le _ _
theorem own_pop {W W' : World} {B g cap : Nat} {cur : Array Value} {O : List Int} {p : Nat} (hr : W.heap[g]? = some (.cells cur 3 (0, 0))) (hB : B ≤ g) (hle : O.length ≤ cap) (hcm : cap ≤ maxLen) (hsz : cur.size = cap * 1) (htk : cur.toList.take O.length = vI O) (hp : p < O.length)
    (hW : Put W g (.cells (cur.toList.take p ++ [Value.int .i64 (O.getD (O.length - 1) 0)] ++ cur.toList.drop (p + 1)).toArray 3 (0, 0)) W') :
    W'.ownsRow B 3 1 (.slice (some ⟨g, 0, none⟩) (O.length - 1) cap) (O.length - 1) (vI (popAt O p)) := by
  have hcl : cur.toList.length = cap := by simpa using hsz
  refine ⟨by rw [vI_length, popAt_length]; omega, .inr ⟨g, cap, _, rfl, hB, hW.at', by omega, hcm, ?_, ?_⟩⟩
  · simp; omega
  · rw [Nat.mul_one]
    have h1 : (cur.toList.take p ++ [Value.int .i64 (O.getD (O.length - 1) 0)] ++ cur.toList.drop (p + 1)).take O.length = vI (O.set p (O.getD (O.length - 1) 0)) := by
      apply List.ext_getElem?
      intro i
      by_cases hi : i < O.length
      · rw [List.getElem?_take, if_pos hi, vI_get _ _ (by simpa using hi)]
        have h3 : (vI O)[i]? = some (.int .i64 O[i]) := vI_get O i hi
        rw [← htk, List.getElem?_take, if_pos hi] at h3
        rcases Nat.lt_trichotomy i p with h2 | h2 | h2
        · rw [List.append_assoc, List.getElem?_append_left (by simp; omega), List.getElem?_take, if_pos h2, h3, List.getElem_set_ne (by omega)]
        · subst h2
          have hcs : i ≤ cur.size := by omega
          rw [List.append_assoc, List.getElem?_append_right (by simp; omega), List.getElem_set_self]
          simp [Nat.min_eq_left hcs]
        · rw [List.getElem?_append_right (by simp; omega), List.getElem_set_ne (by omega), ← h3, List.getElem?_drop]
          congr 1
          simp
          omega
      · rw [List.getElem?_eq_none (by simp; omega), List.getElem?_eq_none (by rw [vI_length]; simp; omega)]
    show (_ : List Value).take (O.length - 1) = _
    rw [List.toList_toArray]
    have h2 : (cur.toList.take p ++ [Value.int .i64 (O.getD (O.length - 1) 0)] ++ cur.toList.drop (p + 1)).take (O.length - 1) = ((cur.toList.take p ++ [Value.int .i64 (O.getD (O.length - 1) 0)] ++ cur.toList.drop (p + 1)).take O.length).take (O.length - 1) := by
      rw [List.take_take, Nat.min_eq_left (by omega)]
    rw [h2, h1, popAt]
    unfold vI
    rw [← List.map_take, List.dropLast_eq_take, List.length_set]
end Go.Proofs.Ytpikmcapnmdmbaa
