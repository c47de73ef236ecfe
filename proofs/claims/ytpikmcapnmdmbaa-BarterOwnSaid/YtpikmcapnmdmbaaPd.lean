/-
  Layer 22, no program: what Clear's answer gives.
-/
import Derived.Test.YtpikmcapnmdmbaaPc
import Derived.Test.YtpikmcapnmdmbaaWf
namespace Go.Proofs.Ytpikmcapnmdmbaa
open Go.RowKit Go.K
set_option linter.unusedVariables false
set_option linter.unusedSimpArgs false
variable {is : List Int} {ws : List (List Int)} {D : Nat → Bool} {cs : List (List Nat)} {G : Nat → Int}
/-- The answer as a function. -/
structure Ans (is : List Int) (ws : List (List Int)) (G : Nat → Int) (N : Nat → Nat) : Prop where
  lt : ∀ k, k < is.length → N k < is.length
  got : ∀ k, k < is.length → G k = is.getD (N k) 0
  own : ∀ i, i < is.length → plc is (ord is (ws.getD i []) i) (is.getD (N i) 0) ≤ plc is (ord is (ws.getD i []) i) (is.getD i 0)
  once : ∀ i, i < is.length → ∃ k, k < is.length ∧ N k = i ∧ ∀ q, q < is.length → N q = i → q = k
  core : ∀ (L out : List Nat), L.Nodup → (∀ a ∈ L, a < is.length) → out.Perm L → (∀ q, q < L.length → plc is (ord is (ws.getD (L.getD q 0) []) (L.getD q 0)) (is.getD (out.getD q 0) 0) ≤ plc is (ord is (ws.getD (L.getD q 0) []) (L.getD q 0)) (is.getD (N (L.getD q 0)) 0)) →
    ∀ q, q < L.length → out.getD q 0 = N (L.getD q 0)
theorem ans_of (h : RunTo is.length (pts is ws) cs D) (ha : ∀ i, i < is.length → D i = true) (hn : is.Nodup) (hg : GotOk is cs G) : Ans is ws G (nextOf cs) := by
  have hN := h.next
  have hlt : ∀ k, k < is.length → nextOf cs k < is.length := fun k hk => h.nextLt hN k (ha k hk)
  refine ⟨hlt, fun k hk => ?_, fun i hi => ?_, fun i hi => once_plain h ha hN i hi, fun L out hL hl hp hw q hq => ?_⟩
  · obtain ⟨c, hc, hkc⟩ := h.gone' k (ha k hk)
    obtain ⟨j, hj, rfl⟩ := mem_getD hkc
    rw [hg c hc j hj, hN c hc j hj]
  · rw [plc_idx hn (ord_lt hi) (hlt i hi), plc_idx hn (ord_lt hi) hi]
    exact own_plain h hn hN i (ha i hi)
  · have hlen : out.length = L.length := hp.length_eq
    have hout : out.Nodup := hp.nodup_iff.2 hL
    have hiq : ∀ a ∈ L, L.idxOf a < L.length := fun a h => List.idxOf_lt_length_of_mem h
    have hge : ∀ q, q < L.length → L.idxOf (L.getD q 0) = q := fun q hq => idxOf_getD hL hq
    have hgi : ∀ a ∈ L, L.getD (L.idxOf a) 0 = a := fun a h => by
      rw [List.getD_eq_getElem?_getD, List.getElem?_eq_getElem (hiq a h)]
      exact List.getElem_idxOf (hiq a h)
    have hmem : ∀ q, q < L.length → out.getD q 0 ∈ L := fun q hq => hp.mem_iff.1 (getD_mem (by omega))
    have := core_plain (N := nextOf cs) h hn hN L (fun a => out.getD (L.idxOf a) 0) (fun a h => hmem _ (hiq a h))
      (fun a h b h' e => by
        have e2 := getD_inj hout (by have := hiq a h; omega) (by have := hiq b h'; omega) e
        rw [← hgi a h, ← hgi b h', e2])
      (fun a h => by
        have h1 := hw (L.idxOf a) (hiq a h)
        rw [hgi a h] at h1
        have h2 := hl a h
        rwa [plc_idx hn (ord_lt h2) (hl _ (hmem _ (hiq a h))), plc_idx hn (ord_lt h2) (hlt a h2)] at h1)
      (L.getD q 0) (getD_mem hq) (ha _ (hl _ (getD_mem hq)))
    have h5 : out.getD (L.idxOf (L.getD q 0)) 0 = nextOf cs (L.getD q 0) := this
    rwa [hge q hq] at h5
theorem nodup_getD {is : List Int} (hn : is.Nodup) {a j : Nat} (ha : a < is.length) (hj : j < is.length) (h : is.getD a 0 = is.getD j 0) : a = j := by
  rw [List.getD_eq_getElem?_getD, List.getElem?_eq_getElem ha, List.getD_eq_getElem?_getD, List.getElem?_eq_getElem hj] at h
  have h' : is[a] = is[j] := h
  rcases Nat.lt_trichotomy a j with h1 | h1 | h1
  · exact absurd h' ((List.pairwise_iff_getElem.1 hn) a j ha hj h1)
  · exact h1
  · exact absurd h'.symm ((List.pairwise_iff_getElem.1 hn) j a hj ha h1)
/-- How often an item is got among the first k. -/
def cnt (G : Nat → Int) (x : Int) (k : Nat) : Nat := (List.range k).countP fun q => G q == x
theorem cnt_succ (G : Nat → Int) (x : Int) (k : Nat) : cnt G x (k + 1) = cnt G x k + if (G k == x) = true then 1 else 0 := by
  unfold cnt
  rw [List.range_succ, List.countP_append, List.countP_singleton]
theorem cnt_le (G : Nat → Int) (x : Int) (k : Nat) : cnt G x k ≤ k := by
  unfold cnt; exact Nat.le_trans List.countP_le_length (by simp)
theorem cnt_one {N : Nat → Nat} (h : Ans is ws G N) (hn : is.Nodup) (i : Nat) (hi : i < is.length) : cnt G (is.getD i 0) is.length = 1 := by
  obtain ⟨k, hk, hki, hu⟩ := h.once i hi
  have key : ∀ m, m ≤ is.length → cnt G (is.getD i 0) m = if k < m then 1 else 0 := by
    intro m
    induction m with
    | zero => intro _; rfl
    | succ m ih =>
      intro hm
      rw [cnt_succ, ih (by omega), h.got m (by omega)]
      by_cases e : m = k
      · subst e
        rw [hki]
        simp
      · have h2 : (is.getD (N m) 0 == is.getD i 0) = false := by
          rw [beq_eq_false_iff_ne]
          intro e2
          exact e (hu m (by omega) (nodup_getD hn (h.lt m (by omega)) hi e2))
        rw [h2]
        by_cases h3 : k < m
        · simp [h3, show k < m + 1 by omega]
        · simp [h3, show ¬ k < m + 1 by omega]
  rw [key is.length (Nat.le_refl _), if_pos hk]
end Go.Proofs.Ytpikmcapnmdmbaa
