/-
  Layer 18: averages lie between the lowest and the highest price.
-/
import Derived.Test.YthadfopkacbnlaaPc
import Derived.Test.YthadfopkacbnlaaTe
namespace Go.Proofs.Ythadfopkacbnlaa
open Go.RowKit Go.K
set_option linter.unusedVariables false
set_option linter.unusedSimpArgs false
/-- What is so of every line: l, h the lowest and the highest price. -/
structure Btw (x : Ln) (l h : Nat) : Prop where
  d0 : 0 ≤ x.deals
  lo : x.low = (l : Int)
  hi : x.high = (h : Int)
  le : l ≤ h
  mx : h < 18446744073709551616
  avg : fuW l ≤ x.avg ∧ x.avg ≤ fuW h
  spr : x.spr ≤ fl.N (fl.V (fuW h) - fl.V (fuW l))
  day : ∀ q, x.has q = true → fuW l ≤ x.day q ∧ x.day q ≤ fuW h
  day0 : ∀ q, x.has q = false → x.day q = 0
  none : x.deals = 0 → x = lnZ
theorem fuW_zero : fuW 0 = 0 := by decide +kernel
theorem btw_z : Btw lnZ 0 0 := by
  refine ⟨Int.le_refl _, rfl, rfl, Nat.le_refl _, by decide, ?_, Nat.zero_le _, (fun q h => by cases h), fun q _ => rfl, fun _ => rfl⟩
  rw [fuW_zero]; exact ⟨Nat.le_refl _, Nat.le_refl _⟩
theorem fuW_fin {n : Nat} (h : n < 18446744073709551616) : fuW n < 2139095040 := by have := fl.fuW_le h; omega
theorem far_in {p a u v : Nat} (hv : v < 2139095040) (hp : u ≤ p ∧ p ≤ v) (ha : u ≤ a ∧ a ≤ v) : farW p a ≤ fl.N (fl.V v - fl.V u) := by
  rw [(fl.far (p := p) (a := a) (by omega) (by omega)).2]
  have h1 := fl.V_mono hp.1 (by omega)
  have h2 := fl.V_mono hp.2 (by omega)
  have h3 := fl.V_mono ha.1 (by omega)
  have h4 := fl.V_mono ha.2 (by omega)
  split
  · exact fl.N_mono (by omega)
  · exact fl.N_mono (by omega)
theorem spr_fin {u v : Nat} (hv : v < 2139095040) : fl.N (fl.V v - fl.V u) < 2139095040 := by
  have := fl.N_le (X := fl.V v - fl.V u) (r := v) (by omega) (Nat.sub_le _ _)
  omega
theorem spr_mono {u v u' v' : Nat} (hv : v' < 2139095040) (h1 : u' ≤ u) (h2 : v ≤ v') (h3 : u ≤ v) : fl.N (fl.V v - fl.V u) ≤ fl.N (fl.V v' - fl.V u') := by
  have a1 := fl.V_mono h1 (by omega)
  have a2 := fl.V_mono h2 (by omega)
  exact fl.N_mono (by omega)
theorem dl_deals (x : Ln) (n h : Nat) : (dealLn x n h).deals = x.deals + 1 := rfl
theorem dl_avg (x : Ln) (n h : Nat) : (dealLn x n h).avg = if x.deals = 0 then fuW n else smV x.avg (fuW n) 1040187392 := rfl
theorem dl_spr (x : Ln) (n h : Nat) : (dealLn x n h).spr = if x.deals = 0 then x.spr else smV x.spr (farW (fuW n) x.avg) 1040187392 := rfl
theorem dl_low (x : Ln) (n h : Nat) : (dealLn x n h).low = if x.deals = 0 then (n : Int) else if (n : Int) < x.low then (n : Int) else x.low := rfl
theorem dl_high (x : Ln) (n h : Nat) : (dealLn x n h).high = if x.deals = 0 then (n : Int) else if x.high < (n : Int) then (n : Int) else x.high := rfl
theorem dl_day (x : Ln) (n h q : Nat) : (dealLn x n h).day q = if q = h then (if x.has h then smV (x.day h) (fuW n) 1056964608 else fuW n) else x.day q := rfl
theorem dl_has (x : Ln) (n h q : Nat) : (dealLn x n h).has q = if q = h then true else x.has q := rfl
theorem Btw.deal {x : Ln} {l h : Nat} (b : Btw x l h) {n : Nat} (hn : n < 18446744073709551616) (hh : Nat) : ∃ l' h', Btw (dealLn x n hh) l' h' := by
  by_cases h0 : x.deals = 0
  · have hx := b.none h0
    have hhas : ∀ q, x.has q = false := fun q => by rw [hx]; rfl
    have hspr : x.spr = 0 := by rw [hx]; rfl
    refine ⟨n, n, ⟨?_, ?_, ?_, Nat.le_refl _, hn, ?_, ?_, fun q hq => ?_, fun q hq => ?_, fun h => ?_⟩⟩
    · rw [dl_deals, h0]; omega
    · rw [dl_low, if_pos h0]
    · rw [dl_high, if_pos h0]
    · rw [dl_avg, if_pos h0]; exact ⟨Nat.le_refl _, Nat.le_refl _⟩
    · rw [dl_spr, if_pos h0, hspr]; exact Nat.zero_le _
    · rw [dl_has] at hq
      rw [dl_day]
      by_cases c : q = hh
      · rw [if_pos c, hhas, if_neg (by simp)]; exact ⟨Nat.le_refl _, Nat.le_refl _⟩
      · rw [if_neg c, hhas] at hq; cases hq
    · rw [dl_has] at hq
      rw [dl_day]
      by_cases c : q = hh
      · rw [if_pos c] at hq; cases hq
      · rw [if_neg c]; exact b.day0 q (hhas q)
    · rw [dl_deals, h0] at h; omega
  · have hl : ∃ l' : Nat, (if (n : Int) < x.low then (n : Int) else x.low) = (l' : Int) ∧ l' ≤ n ∧ l' ≤ l := by
      rw [b.lo]
      by_cases c : (n : Int) < (l : Int)
      · exact ⟨n, by rw [if_pos c], by omega, by omega⟩
      · exact ⟨l, by rw [if_neg c], by omega, by omega⟩
    have hu : ∃ h' : Nat, (if x.high < (n : Int) then (n : Int) else x.high) = (h' : Int) ∧ n ≤ h' ∧ h ≤ h' ∧ h' < 18446744073709551616 := by
      have := b.mx
      rw [b.hi]
      by_cases c : (h : Int) < (n : Int)
      · exact ⟨n, by rw [if_pos c], by omega, by omega, hn⟩
      · exact ⟨h, by rw [if_neg c], by omega, by omega, b.mx⟩
    obtain ⟨l', e1, l1, l2⟩ := hl
    obtain ⟨h', e2, u1, u2, u3⟩ := hu
    have f1 := fl.fuW_mono l1
    have f2 := fl.fuW_mono l2
    have f3 := fl.fuW_mono u1
    have f4 := fl.fuW_mono u2
    have fm := fuW_fin u3
    have ba := b.avg
    have bl := fl.fuW_mono b.le
    refine ⟨l', h', ⟨?_, ?_, ?_, by omega, u3, ?_, ?_, fun q hq => ?_, fun q hq => ?_, fun h => ?_⟩⟩
    · have := b.d0; rw [dl_deals]; omega
    · rw [dl_low, if_neg h0, e1]
    · rw [dl_high, if_neg h0, e2]
    · rw [dl_avg, if_neg h0]
      exact fl.smV_in fm (by decide) eighth_ok ⟨by omega, by omega⟩ ⟨f1, f3⟩
    · rw [dl_spr, if_neg h0]
      refine (fl.smV_in (a := 0) (spr_fin fm) (by decide) eighth_ok ⟨Nat.zero_le _, ?_⟩ ⟨Nat.zero_le _, far_in fm ⟨f1, f3⟩ ⟨by omega, by omega⟩⟩).2
      exact Nat.le_trans b.spr (spr_mono fm f2 f4 bl)
    · rw [dl_has] at hq
      rw [dl_day]
      by_cases c : q = hh
      · rw [if_pos c]
        cases hs : x.has hh with
        | true =>
          rw [if_pos rfl]
          have := b.day hh hs
          exact fl.smV_in fm (by decide) half_ok ⟨by omega, by omega⟩ ⟨f1, f3⟩
        | false =>
          rw [if_neg (by simp)]
          exact ⟨f1, f3⟩
      · rw [if_neg c] at hq ⊢
        have := b.day q hq
        exact ⟨by omega, by omega⟩
    · rw [dl_has] at hq
      rw [dl_day]
      by_cases c : q = hh
      · rw [if_pos c] at hq; cases hq
      · rw [if_neg c] at hq ⊢
        exact b.day0 q hq
    · rw [dl_deals] at h
      have := b.d0
      omega
theorem hearL_btw (l : List Dl) (hp : ∀ d ∈ l, d.price < 18446744073709551616) (k : Nat) : ∃ u v, Btw (hearL l k) u v := by
  have key : ∀ (l : List Dl) (L : Nat → Ln), (∀ d ∈ l, d.price < 18446744073709551616) → (∃ u v, Btw (L k) u v) → ∃ u v, Btw (l.foldl hstep L k) u v := by
    intro l
    induction l with
    | nil => intro L _ h; exact h
    | cons d l ih =>
      intro L hp h
      rw [List.foldl_cons]
      refine ih _ (fun x hx => hp x (List.mem_cons_of_mem _ hx)) ?_
      unfold hstep
      by_cases c : k = d.k
      · subst c
        rw [setL_same]
        obtain ⟨u, v, hb⟩ := h
        exact hb.deal (hp d List.mem_cons_self) _
      · rw [setL_other _ _ _ c]; exact h
  exact key l _ hp ⟨0, 0, btw_z⟩
theorem ord_nat {r s : Nat} (hr : r < 2139095040) (hs : s < 2139095040) : FloatKind.f32.format.order r s = some (compare (fl.V r : Int) (fl.V s : Int)) := by
  have := fl.order_sv false false hr hs
  rw [fl.wd_false, fl.wd_false] at this
  exact this
theorem le_b {r s : Nat} (hs : s < 2139095040) (h : r ≤ s) : (FloatKind.f32.format.order r s == some Ordering.lt || FloatKind.f32.format.order r s == some Ordering.eq) = true := by
  have hm := fl.V_mono h (by omega)
  rw [ord_nat (by omega) hs]
  show (some (compareOfLessAndEq (fl.V r : Int) (fl.V s : Int)) == some Ordering.lt || some (compareOfLessAndEq (fl.V r : Int) (fl.V s : Int)) == some Ordering.eq) = true
  unfold compareOfLessAndEq
  by_cases c : (fl.V r : Int) < (fl.V s : Int)
  · rw [if_pos c]; rfl
  · rw [if_neg c, if_pos (by omega)]; rfl
theorem ge_b {r s : Nat} (hr : r < 2139095040) (h : s ≤ r) : (FloatKind.f32.format.order r s == some Ordering.gt || FloatKind.f32.format.order r s == some Ordering.eq) = true := by
  have hm := fl.V_mono h (by omega)
  rw [ord_nat hr (by omega)]
  show (some (compareOfLessAndEq (fl.V r : Int) (fl.V s : Int)) == some Ordering.gt || some (compareOfLessAndEq (fl.V r : Int) (fl.V s : Int)) == some Ordering.eq) = true
  unfold compareOfLessAndEq
  by_cases c : (fl.V r : Int) = (fl.V s : Int)
  · rw [if_neg (by omega), if_pos c]; rfl
  · rw [if_neg (by omega), if_neg c]; rfl
/-- The spread is no wider than what lies between. -/
theorem sub_b {u v : Nat} (hv : v < 2139095040) (h : u ≤ v) : n03.opW (Ieee.single.sub v u) = fl.N (fl.V v - fl.V u) := fl.sub_up (by omega) hv h
end Go.Proofs.Ythadfopkacbnlaa
