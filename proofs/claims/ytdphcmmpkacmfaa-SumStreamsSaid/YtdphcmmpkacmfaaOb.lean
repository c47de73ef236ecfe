/-
  Layer 5: the script's six blocks: two streams of each side, two rows of pointers; a step on each side, whichever stream it asks.
-/
import Derived.Test.YtdphcmmpkacmfaaOa
import Derived.Test.YtdphcmmpkacmfaaRb
namespace Go.Proofs.Ytdphcmmpkacmfaa
open Go.RowKit Go.K
set_option linter.unusedVariables false
set_option linter.unusedSimpArgs false

abbrev Sts := Nat → BitVec 64 × Nat
def pP (B c : Nat) : Option Addr := if c < 2 then some ⟨B + c, 0, none⟩ else none
def pR (B c : Nat) : Option Addr := if c < 2 then some ⟨B + 3 + c, 0, none⟩ else none
/-- What stands in the six blocks from w's end on. -/
structure ST (w : World) (Sp Sr : Sts) (W : World) : Prop where
  bel : Below w.heap.size w W
  sp : ∀ c, c < 2 → W.heap[w.heap.size + c]? = some (.cells (strRow (Sp c).1 (Sp c).2) 71)
  sr : ∀ c, c < 2 → W.heap[w.heap.size + 3 + c]? = some (.cells (strRow (Sr c).1 (Sr c).2) 73)
  rp : W.heap[w.heap.size + 2]? = some (.cells #[.pointer (some ⟨w.heap.size, 0, none⟩), .pointer (some ⟨w.heap.size + 1, 0, none⟩), .pointer none] 45)
  rr : W.heap[w.heap.size + 5]? = some (.cells #[.pointer (some ⟨w.heap.size + 3, 0, none⟩), .pointer (some ⟨w.heap.size + 4, 0, none⟩), .pointer none] 48)
  np : ∀ c, c < 2 → (Sp c).2 ≤ 9223372036854775807
  nr : ∀ c, c < 2 → (Sr c).2 ≤ 9223372036854775807
theorem lt_row {w : World} {g : Nat} {o : Obj} (h : w.heap[g]? = some o) : g < w.heap.size := (Array.getElem?_eq_some_iff.1 h).1
theorem ST.size {w W : World} {Sp Sr : Sts} (h : ST w Sp Sr W) : w.heap.size + 6 ≤ W.heap.size := by have := lt_row h.rr; omega
/-- Nothing of the six blocks was touched. -/
theorem ST.away {w W W' : World} {Sp Sr : Sts} (h : ST w Sp Sr W) {g : Option Nat} (hg : W.grownBy W' g) (ha : ∀ k, g = some k → w.heap.size + 6 ≤ k) : ST w Sp Sr W' := by
  have hz := h.size
  have key : ∀ k o, k < w.heap.size + 6 → W.heap[k]? = some o → W'.heap[k]? = some o := fun k o hk ho => (hg.block k (lt_row ho) (fun e => by have := ha k e.symm; omega)).trans ho
  exact ⟨h.bel.grown hg h.bel.size (fun k hk => by have := ha k hk; omega), fun c hc => key _ _ (by omega) (h.sp c hc), fun c hc => key _ _ (by omega) (h.sr c hc), key _ _ (by omega) h.rp, key _ _ (by omega) h.rr, h.np, h.nr⟩
theorem ST.kept {w W W' : World} {Sp Sr : Sts} (h : ST w Sp Sr W) (hb : Below W.heap.size W W') : ST w Sp Sr W' := h.away (grown_below hb Option.none) (fun k hk => by cases hk)
def updS (S : Sts) (c : Nat) (v : BitVec 64 × Nat) : Sts := fun i => if i = c then v else S i
theorem ST.setP {w W W' : World} {Sp Sr : Sts} (h : ST w Sp Sr W) {c : Nat} (hc : c < 2) {s : BitVec 64} {n : Nat} (hg : W.grownBy W' (some (w.heap.size + c))) (hr : W'.heap[w.heap.size + c]? = some (.cells (strRow s n) 71)) (hn : n ≤ 9223372036854775807) :
    ST w (updS Sp c (s, n)) Sr W' := by
  have key : ∀ k o, k ≠ w.heap.size + c → W.heap[k]? = some o → W'.heap[k]? = some o := fun k o hk ho => (hg.block k (lt_row ho) (fun e => by injection e; omega)).trans ho
  refine ⟨h.bel.grown hg h.bel.size (fun k hk => by injection hk; omega), fun i hi => ?_, fun i hi => key _ _ (by omega) (h.sr i hi), key _ _ (by omega) h.rp, key _ _ (by omega) h.rr, fun i hi => ?_, h.nr⟩
  · unfold updS
    by_cases e : i = c
    · subst e; rw [if_pos rfl]; exact hr
    · rw [if_neg e]; exact key _ _ (by omega) (h.sp i hi)
  · unfold updS
    by_cases e : i = c
    · subst e; rw [if_pos rfl]; exact hn
    · rw [if_neg e]; exact h.np i hi
theorem ST.setR {w W W' : World} {Sp Sr : Sts} (h : ST w Sp Sr W) {c : Nat} (hc : c < 2) {s : BitVec 64} {n : Nat} (hg : W.grownBy W' (some (w.heap.size + 3 + c))) (hr : W'.heap[w.heap.size + 3 + c]? = some (.cells (strRow s n) 73)) (hn : n ≤ 9223372036854775807) :
    ST w Sp (updS Sr c (s, n)) W' := by
  have key : ∀ k o, k ≠ w.heap.size + 3 + c → W.heap[k]? = some o → W'.heap[k]? = some o := fun k o hk ho => (hg.block k (lt_row ho) (fun e => by injection e; omega)).trans ho
  refine ⟨h.bel.grown hg h.bel.size (fun k hk => by injection hk; omega), fun i hi => key _ _ (by omega) (h.sp i hi), fun i hi => ?_, key _ _ (by omega) h.rp, key _ _ (by omega) h.rr, h.np, fun i hi => ?_⟩
  · unfold updS
    by_cases e : i = c
    · subst e; rw [if_pos rfl]; exact hr
    · rw [if_neg e]; exact key _ _ (by omega) (h.sr i hi)
  · unfold updS
    by_cases e : i = c
    · subst e; rw [if_pos rfl]; exact hn
    · rw [if_neg e]; exact h.nr i hi
theorem ST.cellP {w W : World} {Sp Sr : Sts} (h : ST w Sp Sr W) (c : Nat) (hc : c ≤ 2) : W.cell? ⟨w.heap.size + 2, c, none⟩ = some (.pointer (pP w.heap.size c)) := by
  rw [cell_of_row _ _ _ _ _ _ h.rp]
  have : c = 0 ∨ c = 1 ∨ c = 2 := by omega
  rcases this with rfl | rfl | rfl <;> rfl
theorem ST.cellR {w W : World} {Sp Sr : Sts} (h : ST w Sp Sr W) (c : Nat) (hc : c ≤ 2) : W.cell? ⟨w.heap.size + 5, c, none⟩ = some (.pointer (pR w.heap.size c)) := by
  rw [cell_of_row _ _ _ _ _ _ h.rr]
  have : c = 0 ∨ c = 1 ∨ c = 2 := by omega
  rcases this with rfl | rfl | rfl <;> rfl
/-- What a write answers, and what it makes of the streams. -/
def wCode (S : Sts) (c len : Nat) : Int := if 2 ≤ c then 1 else if 9223372036854775807 < len + (S c).2 then 2 else 0
def wSt (S : Sts) (c : Nat) (l : List (BitVec 8)) : Sts := if wCode S c l.length = 0 then updS S c (updB (S c).1 l, (S c).2 + l.length) else S
def pCode (S : Sts) (c : Nat) (m : Int) : Int := if 2 ≤ c then 1 else if m < 0 ∨ 9223372036854775807 < (S c).2 + m then 2 else 0
def pSt (S : Sts) (c : Nat) (x : BitVec 64) (m : Int) : Sts := if pCode S c m = 0 then updS S c (joinRest (S c).1 M0 m.toNat ^^^ x, (S c).2 + m.toNat) else S
theorem grown_refl (W : World) (g : Option Nat) : W.grownBy W g := grown_below (Below.refl _ _) g
theorem write_st {w W : World} {Sp Sr : Sts} (h : ST w Sp Sr W) (c : Nat) (hc : c ≤ 2) (a : Option Addr) (cap : Nat) (l : List (BitVec 8)) (hl : l.length ≤ maxLen) (hs : Sl W a (vBs l)) :
    Calls Try.prog 28 #[.pointer (pP w.heap.size c), .slice a l.length cap] W fun e w' => e = .returned (.int .i64 (wCode Sp c l.length)) ∧ ST w (wSt Sp c l) Sr w' ∧ ∃ g, w.heap.size ≤ g ∧ g < w.heap.size + 6 ∧ W.grownBy w' (some g) := by
  by_cases h2 : c < 2
  · rw [pP, if_pos h2]
    by_cases ho : 9223372036854775807 < l.length + (Sp c).2
    · have e1 : wCode Sp c l.length = 2 := by rw [wCode, if_neg (by omega), if_pos ho]
      refine (write_over _ _ _ a l.length cap W (h.sp c h2) (h.np c h2) ho).mono ?_
      rintro e w' ⟨rfl, rfl⟩
      exact ⟨by rw [e1], by rw [wSt, e1, if_neg (by decide)]; exact h, w.heap.size, Nat.le_refl _, by omega, grown_refl _ _⟩
    · have e1 : wCode Sp c l.length = 0 := by rw [wCode, if_neg (by omega), if_neg ho]
      refine (write_any _ _ _ a cap l W (h.sp c h2) hl (by omega) hs).mono ?_
      rintro e w' ⟨rfl, hg, hr⟩
      exact ⟨by rw [e1], by rw [wSt, e1, if_pos rfl]; exact h.setP h2 hg hr (by omega), w.heap.size + c, by omega, by omega, hg⟩
  · rw [pP, if_neg h2]
    have e1 : wCode Sp c l.length = 1 := by rw [wCode, if_pos (by omega)]
    refine (write_nil a l.length cap W).mono ?_
    rintro e w' ⟨rfl, rfl⟩
    exact ⟨by rw [e1], by rw [wSt, e1, if_neg (by decide)]; exact h, w.heap.size, Nat.le_refl _, by omega, grown_refl _ _⟩
theorem rwrite_st {w W : World} {Sp Sr : Sts} (h : ST w Sp Sr W) (c : Nat) (hc : c ≤ 2) (a : Option Addr) (cap : Nat) (l : List (BitVec 8)) (hl : l.length ≤ maxLen) (hs : Sl W a (vBs l)) :
    Calls Try.prog 27 #[.pointer (pR w.heap.size c), .slice a l.length cap] W fun e w' => e = .returned (.int .i64 (wCode Sr c l.length)) ∧ ST w Sp (wSt Sr c l) w' ∧ ∃ g, w.heap.size ≤ g ∧ g < w.heap.size + 6 ∧ W.grownBy w' (some g) := by
  by_cases h2 : c < 2
  · rw [pR, if_pos h2]
    by_cases ho : 9223372036854775807 < l.length + (Sr c).2
    · have e1 : wCode Sr c l.length = 2 := by rw [wCode, if_neg (by omega), if_pos ho]
      refine (rwrite_over _ _ _ a l.length cap W (h.sr c h2) (h.nr c h2) ho).mono ?_
      rintro e w' ⟨rfl, rfl⟩
      exact ⟨by rw [e1], by rw [wSt, e1, if_neg (by decide)]; exact h, w.heap.size, Nat.le_refl _, by omega, grown_refl _ _⟩
    · have e1 : wCode Sr c l.length = 0 := by rw [wCode, if_neg (by omega), if_neg ho]
      refine (rwrite_any _ _ _ a cap l W (h.sr c h2) hl (by omega) hs).mono ?_
      rintro e w' ⟨rfl, hg, hr⟩
      exact ⟨by rw [e1], by rw [wSt, e1, if_pos rfl]; exact h.setR h2 hg hr (by omega), w.heap.size + 3 + c, by omega, by omega, hg⟩
  · rw [pR, if_neg h2]
    have e1 : wCode Sr c l.length = 1 := by rw [wCode, if_pos (by omega)]
    refine (rwrite_nil a l.length cap W).mono ?_
    rintro e w' ⟨rfl, rfl⟩
    exact ⟨by rw [e1], by rw [wSt, e1, if_neg (by decide)]; exact h, w.heap.size, Nat.le_refl _, by omega, grown_refl _ _⟩
theorem put_st {w W : World} {Sp Sr : Sts} (h : ST w Sp Sr W) (c : Nat) (hc : c ≤ 2) (x : BitVec 64) (m : Int) :
    Calls Try.prog 30 #[.pointer (pP w.heap.size c), .int .u64 (U64 x), .int .i64 m] W fun e w' => e = .returned (.int .i64 (pCode Sp c m)) ∧ ST w (pSt Sp c x m) Sr w' ∧ ∃ g, w.heap.size ≤ g ∧ g < w.heap.size + 6 ∧ W.grownBy w' (some g) := by
  by_cases h2 : c < 2
  · rw [pP, if_pos h2]
    by_cases hm : m < 0
    · have e1 : pCode Sp c m = 2 := by rw [pCode, if_neg (by omega), if_pos (.inl hm)]
      refine (put_neg _ _ _ x m W (h.sp c h2) hm).mono ?_
      rintro e w' ⟨rfl, rfl⟩
      exact ⟨by rw [e1], by rw [pSt, e1, if_neg (by decide)]; exact h, w.heap.size, Nat.le_refl _, by omega, grown_refl _ _⟩
    · obtain ⟨k, rfl⟩ : ∃ k : Nat, m = (k : Int) := ⟨m.toNat, by omega⟩
      by_cases ho : 9223372036854775807 < (Sp c).2 + k
      · have e1 : pCode Sp c k = 2 := by rw [pCode, if_neg (by omega), if_pos (.inr (by omega))]
        refine (put_over _ _ _ x k W (h.sp c h2) (h.np c h2) ho).mono ?_
        rintro e w' ⟨rfl, rfl⟩
        exact ⟨by rw [e1], by rw [pSt, e1, if_neg (by decide)]; exact h, w.heap.size, Nat.le_refl _, by omega, grown_refl _ _⟩
      · have e1 : pCode Sp c k = 0 := by rw [pCode, if_neg (by omega), if_neg (by omega)]
        refine (put_any _ _ _ x k W (h.sp c h2) (by omega)).mono ?_
        rintro e w' ⟨rfl, hg, hr⟩
        exact ⟨by rw [e1], by rw [pSt, e1, if_pos rfl]; exact h.setP h2 hg hr (by simp; omega), w.heap.size + c, by omega, by omega, hg⟩
  · rw [pP, if_neg h2]
    have e1 : pCode Sp c m = 1 := by rw [pCode, if_pos (by omega)]
    refine (put_nil x m W).mono ?_
    rintro e w' ⟨rfl, rfl⟩
    exact ⟨by rw [e1], by rw [pSt, e1, if_neg (by decide)]; exact h, w.heap.size, Nat.le_refl _, by omega, grown_refl _ _⟩
theorem rput_st {w W : World} {Sp Sr : Sts} (h : ST w Sp Sr W) (c : Nat) (hc : c ≤ 2) (x : BitVec 64) (m : Int) :
    Calls Try.prog 29 #[.pointer (pR w.heap.size c), .int .u64 (U64 x), .int .i64 m] W fun e w' => e = .returned (.int .i64 (pCode Sr c m)) ∧ ST w Sp (pSt Sr c x m) w' ∧ ∃ g, w.heap.size ≤ g ∧ g < w.heap.size + 6 ∧ W.grownBy w' (some g) := by
  by_cases h2 : c < 2
  · rw [pR, if_pos h2]
    by_cases hm : m < 0
    · have e1 : pCode Sr c m = 2 := by rw [pCode, if_neg (by omega), if_pos (.inl hm)]
      refine (rput_neg _ _ _ x m W (h.sr c h2) hm).mono ?_
      rintro e w' ⟨rfl, rfl⟩
      exact ⟨by rw [e1], by rw [pSt, e1, if_neg (by decide)]; exact h, w.heap.size, Nat.le_refl _, by omega, grown_refl _ _⟩
    · obtain ⟨k, rfl⟩ : ∃ k : Nat, m = (k : Int) := ⟨m.toNat, by omega⟩
      by_cases ho : 9223372036854775807 < (Sr c).2 + k
      · have e1 : pCode Sr c k = 2 := by rw [pCode, if_neg (by omega), if_pos (.inr (by omega))]
        refine (rput_over _ _ _ x k W (h.sr c h2) (h.nr c h2) ho).mono ?_
        rintro e w' ⟨rfl, rfl⟩
        exact ⟨by rw [e1], by rw [pSt, e1, if_neg (by decide)]; exact h, w.heap.size, Nat.le_refl _, by omega, grown_refl _ _⟩
      · have e1 : pCode Sr c k = 0 := by rw [pCode, if_neg (by omega), if_neg (by omega)]
        refine (rput_any _ _ _ x k W (h.sr c h2) (by omega)).mono ?_
        rintro e w' ⟨rfl, hg, hr⟩
        exact ⟨by rw [e1], by rw [pSt, e1, if_pos rfl]; exact h.setR h2 hg hr (by simp; omega), w.heap.size + 3 + c, by omega, by omega, hg⟩
  · rw [pR, if_neg h2]
    have e1 : pCode Sr c m = 1 := by rw [pCode, if_pos (by omega)]
    refine (rput_nil x m W).mono ?_
    rintro e w' ⟨rfl, rfl⟩
    exact ⟨by rw [e1], by rw [pSt, e1, if_neg (by decide)]; exact h, w.heap.size, Nat.le_refl _, by omega, grown_refl _ _⟩
end Go.Proofs.Ytdphcmmpkacmfaa
