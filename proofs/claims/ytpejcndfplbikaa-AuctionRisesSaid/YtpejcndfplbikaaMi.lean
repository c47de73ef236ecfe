/-
  Layer 21: what joins an English auction, and how it ends.
-/
import Derived.Test.YtpejcndfplbikaaMh
namespace Go.Proofs.Ytpejcndfplbikaa
open Go.RowKit Go.K
set_option linter.unusedVariables false
set_option linter.unusedSimpArgs false
def kLs (n : Nat) (a m : Int) : List Ent := if n = 0 then [e7] else [e7, cE a m]
theorem kLs_zero (a m : Int) : kLs 0 a m = [e7] := rfl
theorem kLs_pos {n : Nat} (h : 0 < n) (a m : Int) : kLs n a m = [e7, cE a m] := if_neg (by omega)
theorem terms_rises (r s : Int) (h : 1 ≤ r ∧ r ≤ 4611686018427387904 ∧ 1 ≤ s ∧ s ≤ 4611686018427387904) :
    termsV (kC 2 r s [e7]).kind (kC 2 r s [e7]).by' (kC 2 r s [e7]).to' (kC 2 r s [e7]).want (kC 2 r s [e7]).price (kC 2 r s [e7]).reserve (kC 2 r s [e7]).step (kC 2 r s [e7]).of' ((kC 2 r s [e7]).es.map Ent.d) = 0 := by
  show termsV 2 1 0 0 0 r s 0 [(1, 7, 0, 0, [])] = 0
  unfold termsV
  have h1 : pP r = true := pP_of (by omega) (by omega)
  have h2 : pP s = true := pP_of (by omega) (by omega)
  rw [h1, h2]
  rfl
theorem terms_not (r s : Int) (h : ¬ (1 ≤ r ∧ r ≤ 4611686018427387904 ∧ 1 ≤ s ∧ s ≤ 4611686018427387904)) :
    termsV (kC 2 r s [e7]).kind (kC 2 r s [e7]).by' (kC 2 r s [e7]).to' (kC 2 r s [e7]).want (kC 2 r s [e7]).price (kC 2 r s [e7]).reserve (kC 2 r s [e7]).step (kC 2 r s [e7]).of' ((kC 2 r s [e7]).es.map Ent.d) = 200 := by
  show termsV 2 1 0 0 0 r s 0 [(1, 7, 0, 0, [])] = 200
  unfold termsV
  rw [if_neg]
  rintro ⟨_, _, _, _, _, h1, _, h2, _⟩
  rw [if_pos rfl] at h2
  unfold pP at h1 h2
  simp only [Bool.and_eq_true, decide_eq_true_eq] at h1 h2
  omega
theorem joins_first (r s a m : Int) (h : (kC 2 r s [e7]).joinV' (cE a m) = 0) : a ≠ 1 ∧ r ≤ m := by
  have h : joinV 2 1 r s [(1, 7, 0, 0, [])] (a, 0, m, 0, []) = 0 := h
  unfold joinV at h
  split at h
  · omega
  · rename_i h1
    refine ⟨h1, ?_⟩
    split at h
    · split at h
      · omega
      · rename_i _ h2
        by_cases h3 : m < r
        · exfalso; apply h2; unfold lowV; rw [if_neg (by decide), if_pos h3]
        · omega
    · omega
theorem joins_next (r s a m a' m' : Int) (h : (kC 2 r s [e7, cE a m]).joinV' (cE a' m') = 0) : a' ≠ 1 ∧ r ≤ m' ∧ m ≤ m' ∧ s ≤ m' - m := by
  have h : joinV 2 1 r s [(1, 7, 0, 0, []), (a, 0, m, 0, [])] (a', 0, m', 0, []) = 0 := h
  unfold joinV at h
  split at h
  · omega
  · rename_i h1
    refine ⟨h1, ?_⟩
    split at h
    · split at h
      · omega
      · rename_i _ h2
        unfold lowV at h2
        rw [if_neg (by decide)] at h2
        by_cases h3 : m' < r
        · rw [if_pos h3] at h2; exact absurd rfl h2
        · rw [if_neg h3, if_neg (by simp)] at h2
          have h4 : dC [(1, 7, 0, 0, []), (a, 0, m, 0, [])] ([((1, 7, 0, 0, []) : DE), (a, 0, m, 0, [])].length - 1) = m := rfl
          rw [h4] at h2
          simp only [Bool.or_eq_true, decide_eq_true_eq] at h2
          omega
    · omega
theorem ds_first (r s a m : Int) (h : (kC 2 r s [e7]).joinV' (cE a m) = 0) : joinDs (kC 2 r s [e7]) (cE a m) = (kC 2 r s [e7, cE a m]).d ∧ joinGs (kC 2 r s [e7]) (cE a m) = [] := by
  unfold joinDs joinGs
  rw [if_pos h, if_pos h]
  exact ⟨rfl, rfl⟩
theorem ds_next (r s a m a' m' : Int) (h : (kC 2 r s [e7, cE a m]).joinV' (cE a' m') = 0) (hm : m ≠ 0) : joinDs (kC 2 r s [e7, cE a m]) (cE a' m') = (kC 2 r s [e7, cE a' m']).d ∧ joinGs (kC 2 r s [e7, cE a m]) (cE a' m') = [⟨a, 0, m⟩] := by
  unfold joinDs joinGs
  rw [if_pos h, if_pos h]
  refine ⟨rfl, ?_⟩
  show giveL a 0 m = _
  unfold giveL
  rw [if_pos rfl, if_neg hm]
  rfl
theorem end_first (r s : Int) : endL (kC 2 r s [e7]).kind (kC 2 r s [e7]).reserve ((kC 2 r s [e7]).es.map Ent.d) = [⟨1, 7, 0⟩] := rfl
theorem end_next (r s a m : Int) (hm : m ≠ 0) : endL (kC 2 r s [e7, cE a m]).kind (kC 2 r s [e7, cE a m]).reserve ((kC 2 r s [e7, cE a m]).es.map Ent.d) = [⟨a, 7, 0⟩, ⟨1, 0, m⟩] := by
  show giveL a 7 0 ++ giveL 1 0 0 ++ (giveL a 0 0 ++ giveL 1 0 m ++ giveL a 0 (IntKind.u64.wrap (m - m))) = _
  have e : IntKind.u64.wrap (m - m) = 0 := by rw [Int.sub_self]; rfl
  rw [e]
  unfold giveL
  rw [if_neg (show ¬ (7 : Int) = 0 by decide), if_pos rfl, if_pos rfl, if_neg hm]
  rfl
/-- The worlds in which 'c, last = d, e' is under way. -/
def RFl (V : World) (g7 g11 g12 : Nat) (cur d : Con) (e : Ent) (b : Bool) (W : World) : Prop := Only (fun k => k = g7) V W ∧ Box W g12 d ∧ BoxE W g11 e ∧ Box W g7 (if b = true then d else cur)
end Go.Proofs.Ytpejcndfplbikaa
