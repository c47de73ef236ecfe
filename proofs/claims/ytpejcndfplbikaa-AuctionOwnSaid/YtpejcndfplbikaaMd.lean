/-
  Layer 21: no gift is empty, and none is of an item and of coins at once.
-/
import Derived.Test.YtpejcndfplbikaaPa
namespace Go.Proofs.Ytpejcndfplbikaa
open Go.RowKit Go.K
set_option linter.unusedVariables false
set_option linter.unusedSimpArgs false
def FullG (g : Gi) : Prop := (g.item = 0 ∧ g.coins ≠ 0) ∨ (g.item ≠ 0 ∧ g.coins = 0)
theorem giveL_full (t i c : Int) : ∀ g ∈ giveL t i c, FullG g := by
  intro g hg
  unfold giveL at hg
  rcases List.mem_append.1 hg with h | h
  · split at h
    · cases h
    · rw [List.mem_singleton] at h; subst h; exact .inr ⟨by assumption, rfl⟩
  · split at h
    · cases h
    · rw [List.mem_singleton] at h; subst h; exact .inl ⟨rfl, by assumption⟩
theorem backP_full (l : List DE) (n : Nat) : ∀ g ∈ backP l n, FullG g := by
  induction n with
  | zero => intro g h; cases h
  | succ n ih =>
    intro g h
    simp only [backP] at h
    rcases List.mem_append.1 h with h | h
    · exact ih g h
    · exact giveL_full _ _ _ g h
theorem endP_full (l : List DE) (w : Nat) (p : Int) (n : Nat) : ∀ g ∈ endP l w p n, FullG g := by
  induction n with
  | zero => intro g h; cases h
  | succ n ih =>
    intro g h
    simp only [endP] at h
    rcases List.mem_append.1 h with h | h
    · exact ih g h
    · unfold endS at h
      split at h
      · rcases List.mem_append.1 h with h | h <;> exact giveL_full _ _ _ g h
      · split at h
        · rcases List.mem_append.1 h with h | h
          · rcases List.mem_append.1 h with h | h <;> exact giveL_full _ _ _ g h
          · exact giveL_full _ _ _ g h
        · exact giveL_full _ _ _ g h
theorem endL_full (k r : Int) (l : List DE) : ∀ g ∈ endL k r l, FullG g := by
  unfold endL
  split
  · exact backP_full _ _
  · exact endP_full _ _ _ _
theorem full_true (a : Option Addr) (c : Nat) (l : List Gi) (w : World) (hl : l.length ≤ 5864062014634) (ha : Sl w a (gFlat l)) (hf : ∀ g ∈ l, FullG g) :
    Calls Try.prog 29 #[.slice a l.length c] w fun e w' => e = .returned (.bool true) ∧ Qt w w' := by
  have HA := Lib.hid ha
  have HF := Lib.hid hf
  clear ha hf
  go_enter Try.func29, Try.ntmps29
  go_wp2
  go_loopw [3] (fun i wr => ∃ k : Nat, k ≤ l.length ∧ i = .int .i64 k ∧ Qt w wr) (fun i _ => l.length - (intOf i).toNat)
  case atStart => exact ⟨0, by omega, rfl, Qt.refl _⟩
  case round =>
    obtain ⟨k, hk, rfl, hq⟩ := hrel
    have HQ := Lib.hid hq
    clear hq
    by_cases hlt : k < l.length
    · have hbk : decide ((k : Int) < (l.length : Int)) = true := by simp; omega
      obtain ⟨b1, o1, rfl, x0, x1, x2⟩ := gift_at (HQ.out.sl HA.out) k hlt
      have i1 : (k : Int) < (l.length : Int) := by omega
      have HG := Lib.hid (HF.out _ (List.getElem_mem hlt))
      unfold FullG at HG
      generalize l[k].to' = gt at *
      generalize l[k].item = gi at *
      generalize l[k].coins = gc at *
      rcases HG.out with ⟨h1, h2⟩ | ⟨h1, h2⟩
      · have c1 : (gi == 0) = true := by simpa using h1
        have c2 : (gc == 0) = false := by simpa using h2
        clear h1 h2
        go_wp2
        try go_quiet (fail)
        try go_wp2
        go_roundw
        case rel => exact ⟨k + 1, by omega, by go_num, by first | exact HQ.out | exact HQ.out.trans ⟨_, rfl⟩⟩
        case measure => simp [intOf]; omega
      · have c1 : (gi == 0) = false := by simpa using h1
        have c2 : (gc == 0) = true := by simpa using h2
        clear h1 h2
        go_wp2
        try go_quiet (fail)
        try go_wp2
        go_roundw
        case rel => exact ⟨k + 1, by omega, by go_num, by first | exact HQ.out | exact HQ.out.trans ⟨_, rfl⟩⟩
        case measure => simp [intOf]; omega
    · have hbk : decide ((k : Int) < (l.length : Int)) = false := by simp; omega
      go_wp2
      go_ret
      exact ⟨rfl, HQ.out⟩
end Go.Proofs.Ytpejcndfplbikaa
