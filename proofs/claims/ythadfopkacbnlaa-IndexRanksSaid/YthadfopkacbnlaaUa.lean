/-
  Layer 18: ints; a rank as a list.
-/
import Derived.Test.YthadfopkacbnlaaTe
import Derived.Test.YthadfopkacbnlaaTg
import Derived.Test.YthadfopkacbnlaaTd
import Derived.BigQuiet
import Derived.Deep.QuietTactic
namespace Go.Proofs.Ythadfopkacbnlaa
open Go.RowKit Go.K Stab
set_option linter.unusedVariables false
set_option linter.unusedSimpArgs false
attribute [local go_sem] run_store_float
theorem vN_ne {l : List Nat} {k : Nat} (h : k < l.length) : vN l ≠ [] := fun e => by have := vN_len l; rw [e] at this; simp at this; omega
theorem vN_get (l : List Nat) (k : Nat) (h : k < l.length) : (vN l)[k]? = some (.int .i64 (l[k] : Int)) := by unfold vN; simp [h]
set_option maxHeartbeats 4000000 in
theorem ints_true (a b : Option Addr) (c d : Nat) (l : List Nat) (w : World) (hl : l.length ≤ maxLen) (ha : Sl w a (vN l)) (hb : Sl w b (vN l)) :
    Calls Try.prog 13 #[.slice a l.length c, .slice b l.length d] w fun e w' => e = .returned (.bool true) ∧ Qt w w' := by
  unfold maxLen at hl
  have HA := Lib.hid ha
  have HB := Lib.hid hb
  have hb0 : ((l.length : Int) != (l.length : Int)) = false := by simp
  clear ha hb
  go_enter Try.func13, Try.ntmps13
  go_wp2
  go_loopw [5] (fun i wr => ∃ k : Nat, k ≤ l.length ∧ i = .int .i64 k ∧ Qt w wr) (fun i _ => l.length - (intOf i).toNat)
  case atStart => exact ⟨0, by omega, rfl, Qt.refl _⟩
  case round =>
    obtain ⟨k, hk, rfl, hq⟩ := hrel
    have HQ := Lib.hid hq
    clear hq
    by_cases hlt : k < l.length
    · have hbk : decide ((k : Int) < (l.length : Int)) = true := by simp; omega
      obtain ⟨b1, o1, rfl, hc1⟩ := (HQ.out.sl HA.out) (vN_ne hlt)
      obtain ⟨b2, o2, rfl, hc2⟩ := (HQ.out.sl HB.out) (vN_ne hlt)
      have h1 := hc1 k (by rw [vN_len]; exact hlt)
      have h2 := hc2 k (by rw [vN_len]; exact hlt)
      rw [vN_get l k hlt] at h1 h2
      have i1 : (k : Int) < (l.length : Int) := by omega
      have hne : ((l[k] : Int) != (l[k] : Int)) = false := by simp
      clear hc1 hc2
      go_wp2
      go_quiet (fail)
      go_wp2
      go_roundw
      case rel => exact ⟨k + 1, by omega, by go_num, HQ.out.trans ⟨_, rfl⟩⟩
      case measure => simp [intOf]; omega
    · have hbk : decide ((k : Int) < (l.length : Int)) = false := by simp; omega
      go_wp2
      go_ret
      exact ⟨rfl, HQ.out⟩
theorem RankIs.kept {L : Nat → Ln} {b : Nat} {w w' : World} {v : Value} (h : RankIs L b w v) (hb : Below w.heap.size w w') : RankIs L b w' v := by
  obtain ⟨r, h1, h2⟩ := h
  exact ⟨r, h1, owns_below (B := 0) h2 hb⟩
/-- A rank is a list somewhere. -/
theorem RankIs.sl {L : Nat → Ln} {b : Nat} {w : World} {v : Value} {q : List Nat} (h : RankIs L b w v) (hq : Rank L q) : ∃ a c, v = .slice a q.length c ∧ Sl w a (vN q) := by
  obtain ⟨r, h1, h2⟩ := h
  obtain rfl := h1.unique hq
  rcases h2.2 with ⟨rfl, h0⟩ | ⟨g, cap, cur, rfl, hb, hg, hn, hm, hs, ht⟩
  · refine ⟨none, 0, by rw [h0], fun hne => absurd ?_ hne⟩
    rw [List.length_eq_zero_iff.1 h0]; rfl
  · refine ⟨some ⟨g, 0, none⟩, cap, rfl, fun _ => ⟨g, 0, rfl, fun i hi => ?_⟩⟩
    rw [vN_len] at hi
    rw [cell_of_row _ _ _ _ _ _ hg, ← ht, Nat.mul_one, List.getElem?_take_of_lt (by omega), Nat.zero_add]
    simp
end Go.Proofs.Ythadfopkacbnlaa
