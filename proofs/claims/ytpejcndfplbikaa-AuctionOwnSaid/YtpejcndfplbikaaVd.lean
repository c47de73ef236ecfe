/-
  Layer 21: the marks of a lent entry; what an entry gives back; the hall of an auction.
-/
import Derived.Test.YtpejcndfplbikaaVc
namespace Go.Proofs.Ytpejcndfplbikaa
open Go.RowKit Go.K
set_option linter.unusedVariables false
set_option linter.unusedSimpArgs false
theorem MarkE.mark {B : Nat} {W V : World} {x : Ent} (hx : MarkE B W x) (hb : Below W.heap.size W V) : ∃ g, x.wa = some ⟨g, 0, none⟩ ∧ x.ws.length + 2 ≤ x.wc ∧ V.cell? ⟨g, x.ws.length, none⟩ = some (.int .i64 (-77)) ∧ V.cell? ⟨g, x.ws.length + 1, none⟩ = some (.int .i64 (-78)) := by
  obtain ⟨g, hw, hg, hle, hs⟩ := hx.at'
  obtain ⟨b, off, he, hc⟩ := hs.kept hb (vI_ne (k := 0) (by simp))
  rw [hw] at he
  cases he
  refine ⟨g, hw, hle, ?_, ?_⟩
  · have h1 := hc x.ws.length (by rw [vI_length]; simp)
    have e1 : (vI (x.ws ++ [-77, -78]))[x.ws.length]? = some (.int .i64 (-77)) := by simp [vI]
    rw [e1] at h1
    simpa using h1
  · have h1 := hc (x.ws.length + 1) (by rw [vI_length]; simp)
    have e1 : (vI (x.ws ++ [-77, -78]))[x.ws.length + 1]? = some (.int .i64 (-78)) := by simp [vI]
    rw [e1] at h1
    simpa using h1
set_option maxRecDepth 100000 in
theorem marked_true (x : Ent) (B : Nat) (w : World) (hx : MarkE B w x) :
    Calls Try.prog 24 #[x.agg] w fun r w' => r = .returned (.bool true) ∧ Below w.heap.size w w' := by
  have HM := Lib.hid (fun V (h : Below w.heap.size w V) => hx.mark h)
  obtain ⟨g, hw, hle, _, _⟩ := hx.mark (Below.refl _ _)
  have hm := hx.mx
  clear hx
  obtain ⟨xa, xi, xc, xp, xw, xk, xs⟩ := x
  simp only at hw hle hm
  subst hw
  unfold Ent.agg
  have HB := Lib.hid ((Below.refl w.heap.size w).alloc (Nat.le_refl _) (.cells #[.int .i64 xa, .int .i64 xi, .int .u64 xc, .int .u64 xp, .slice (some ⟨g, 0, none⟩) xs.length xk] 33))
  obtain ⟨_, hq, _, m0, m1⟩ := HM.out _ HB.out
  cases hq
  have e2 : (xs.length : Int) + 2 ≤ (xk : Int) := by omega
  have hrS : ∀ W, (Instr.slice 31 (.slice (some ⟨g, 0, none⟩) xs.length xk) none (some (.int .i64 ((xs.length : Int) + 2))) none).run Try.prog W = .ok (.slice (some ⟨g, 0, none⟩) (xs.length + 2) xk) W := fun W =>
    run_slice_hi (P := Try.prog) Try.underlying31 sz3 (some ⟨g, 0, none⟩) ⟨g, 0, rfl⟩ xs.length xk .i64 ((xs.length : Int) + 2) (xs.length + 2) rfl hle W
  have i3 : (xs.length : Int) < ((xs.length + 2 : Nat) : Int) := by omega
  have i4 : (xs.length : Int) + 1 < ((xs.length + 2 : Nat) : Int) := by omega
  have i5 : (xk : Int) ≥ (xs.length : Int) + 2 := by omega
  clear HM
  go_enter Try.func24, Try.ntmps24
  go_wp2
  go_ret
  exact ⟨rfl, HB.out⟩
/-- A price. -/
def pP (n : Int) : Bool := decide (n ≥ 1) && decide (n ≤ 4611686018427387904)
theorem price_any (n : Int) (w : World) : Calls Try.prog 48 #[.int .u64 n] w fun r w' => r = .returned (.bool (pP n)) ∧ w = w' := by
  go_enter Try.func48, Try.ntmps48
  by_cases h : n ≥ 1
  · have c1 : decide (n ≥ 1) = true := decide_eq_true h
    have HP := Lib.hid (show pP n = decide (n ≤ 4611686018427387904) by unfold pP; rw [c1]; rfl)
    go_wp2
    go_ret
    exact ⟨by rw [HP.out]; rfl, rfl⟩
  · have c1 : decide (n ≥ 1) = false := decide_eq_false h
    have HP := Lib.hid (show pP n = false by unfold pP; rw [c1]; rfl)
    go_wp2
    go_ret
    exact ⟨by rw [HP.out]; rfl, rfl⟩
/-- The gifts that are not empty. -/
def giveL (to' item coins : Int) : List Gi := (if item = 0 then [] else [⟨to', item, 0⟩]) ++ (if coins = 0 then [] else [⟨to', 0, coins⟩])
theorem giveL_le (t i c : Int) : (giveL t i c).length ≤ 2 := by unfold giveL; split <;> split <;> simp
theorem oneCell_gFlat (l : List Gi) : ∀ u ∈ gFlat l, u.oneCell' = true := by
  intro u hu
  obtain ⟨g, _, hg⟩ := List.mem_flatMap.1 hu
  simp only [Gi.cells, List.mem_cons, List.not_mem_nil, or_false] at hg
  rcases hg with rfl | rfl | rfl <;> rfl
/-- A list that a call goes on with: what it holds now, and that all else stays. -/
structure Grow (B : Nat) (w w' : World) (v v' : Value) (n m : Nat) (xs ys : List Value) : Prop where
  row : w'.ownsRow B 64 3 v' (n + m) (xs ++ ys)
  only : Only (fun k => v.ownBlock = some k) w w'
  at' : v'.ownBlock = v.ownBlock ∨ ∃ k, v'.ownBlock = some k ∧ w.heap.size ≤ k
theorem Grow.next {B : Nat} {w w1 w2 : World} {v v1 v2 : Value} {n m k : Nat} {xs ys zs : List Value} (h : Grow B w w1 v v1 n m xs ys) (h2 : Grow B w1 w2 v1 v2 (n + m) k (xs ++ ys) zs) : Grow B w w2 v v2 n (m + k) xs (ys ++ zs) := by
  refine ⟨by rw [← Nat.add_assoc, ← List.append_assoc]; exact h2.row, h.only.trans h2.only (fun j hj => ?_), ?_⟩
  · rcases h.at' with e | ⟨i, e, hi⟩
    · exact .inl (e ▸ hj)
    · rw [e] at hj; injection hj with hj; exact .inr (hj ▸ hi)
  · rcases h2.at' with e | ⟨i, e, hi⟩
    · rw [e]; exact h.at'
    · exact .inr ⟨i, e, Nat.le_trans h.only.size hi⟩
theorem Grow.nil {B : Nat} {w w' : World} {v : Value} {n : Nat} {xs : List Value} (ho : w.ownsRow B 64 3 v n xs) (hb : Below w.heap.size w w') : Grow B w w' v v n 0 xs [] :=
  ⟨by rw [List.append_nil]; exact owns_below (B := 0) ho hb, Only.of_below hb, .inl rfl⟩
theorem Grow.of {B : Nat} {w wa w' : World} {v v' : Value} {n m : Nat} {xs ys : List Value} (hb : Below w.heap.size w wa) (ho : w'.ownsRow B 64 3 v' (n + m) (xs ++ ys)) (hg : wa.grownBy w' v.ownBlock) (hat : v'.ownBlock = v.ownBlock ∨ v'.ownBlock = some wa.heap.size) : Grow B w w' v v' n m xs ys :=
  ⟨ho, (Only.of_below hb).trans (Only.of_grown (S := fun k => v.ownBlock = some k) hg (fun k hk => hk)) (fun k hk => .inl hk), hat.imp id (fun e => ⟨_, e, hb.size⟩)⟩
theorem Grow.below {B C : Nat} {w w' : World} {v v' : Value} {n m : Nat} {xs ys : List Value} (h : Grow B w w' v v' n m xs ys) (ho : w.ownsRow B 64 3 v n xs) (hC : C ≤ B) (hB : C ≤ w.heap.size) : Below C w w' :=
  h.only.below hB (fun k hk => Nat.le_trans hC (ho.lt k hk).1)
set_option maxRecDepth 100000 in
set_option maxHeartbeats 1000000 in
theorem give_any (B : Nat) (v : Value) (n : Nat) (xs : List Value) (t i c : Int) (w : World) (hB : B ≤ w.heap.size) (hn : n ≤ 5800000000000) (ho : w.ownsRow B 64 3 v n xs) :
    Calls Try.prog 44 #[v, .int .i64 t, .int .i64 i, .int .u64 c] w fun r w' => ∃ v', r = .returned v' ∧ Grow B w w' v v' n (giveL t i c).length xs (gFlat (giveL t i c)) := by
  have HO := Lib.hid ho
  clear ho
  go_enter Try.func44, Try.ntmps44
  by_cases h1 : i = 0
  · have c1 : (i != 0) = false := by simpa using h1
    by_cases h2 : c = 0
    · have c2 : (c != 0) = false := by simpa using h2
      have HG := Lib.hid (show giveL t i c = [] by unfold giveL; rw [if_pos h1, if_pos h2]; rfl)
      clear h1 h2
      go_wp2
      go_ret
      exact ⟨_, rfl, by rw [HG.out]; exact Grow.nil HO.out (Below.refl _ _)⟩
    · have c2 : (c != 0) = true := by simpa using h2
      have HG := Lib.hid (show giveL t i c = [⟨t, 0, c⟩] by unfold giveL; rw [if_pos h1, if_neg h2]; rfl)
      clear h1 h2
      go_wp2_with (at_builtin; refine wpList_append_sl_at rfl _ _ 27 rfl B 64 (.agg #[.int .i64 0, .int .i64 0, .int .u64 0]) 3 24 Try.underlying27 infoG rfl (by decide) v n xs rfl (HO.out.alloc _) (some ⟨w.heap.size, 0, none⟩) 1 1 (gFlat [⟨t, 0, c⟩]) rfl (fun h => by cases h) ?a1 (sl_new _ _ _ _) (oneCell_gFlat _) ?a2 ?a3 ?a4 ?a5)
      case a1 => rfl
      case a2 => unfold maxLen; omega
      case a3 => omega
      case a4 => simp only [World.size_alloc]; omega
      intro v1 w1 ho hg hat
      have HW := Lib.hid (Grow.of ((Below.refl w.heap.size w).alloc (Nat.le_refl _) _) ho hg (by simpa using hat))
      clear ho hg hat
      go_wp2
      go_ret
      exact ⟨_, rfl, by rw [HG.out]; exact HW.out⟩
  · have c1 : (i != 0) = true := by simpa using h1
    go_wp2_with (at_builtin; refine wpList_append_sl_at rfl _ _ 27 rfl B 64 (.agg #[.int .i64 0, .int .i64 0, .int .u64 0]) 3 24 Try.underlying27 infoG rfl (by decide) v n xs rfl (HO.out.alloc _) (some ⟨w.heap.size, 0, none⟩) 1 1 (gFlat [⟨t, i, 0⟩]) rfl (fun h => by cases h) ?b1 (sl_new _ _ _ _) (oneCell_gFlat _) ?b2 ?b3 ?b4 ?b5)
    case b1 => rfl
    case b2 => unfold maxLen; omega
    case b3 => omega
    case b4 => simp only [World.size_alloc]; omega
    intro v1 w1 ho hg hat
    have HW := Lib.hid (Grow.of ((Below.refl w.heap.size w).alloc (Nat.le_refl _) _) ho hg (by simpa using hat))
    clear ho hg hat
    have HB1 := Lib.hid (Nat.le_trans hB HW.out.only.size)
    by_cases h2 : c = 0
    · have c2 : (c != 0) = false := by simpa using h2
      have HG := Lib.hid (show giveL t i c = [⟨t, i, 0⟩] by unfold giveL; rw [if_neg h1, if_pos h2]; rfl)
      clear h1 h2
      go_wp2
      go_ret
      exact ⟨_, rfl, by rw [HG.out]; exact HW.out⟩
    · have c2 : (c != 0) = true := by simpa using h2
      have HG := Lib.hid (show giveL t i c = [⟨t, i, 0⟩, ⟨t, 0, c⟩] by unfold giveL; rw [if_neg h1, if_neg h2]; rfl)
      clear h1 h2
      go_wp2_with (at_builtin; refine wpList_append_sl_at rfl _ _ 27 rfl B 64 (.agg #[.int .i64 0, .int .i64 0, .int .u64 0]) 3 24 Try.underlying27 infoG rfl (by decide) v1 (n + 1) (xs ++ gFlat [⟨t, i, 0⟩]) rfl (HW.out.row.alloc _) (some ⟨w1.heap.size, 0, none⟩) 1 1 (gFlat [⟨t, 0, c⟩]) rfl (fun h => by cases h) ?d1 (sl_new _ _ _ _) (oneCell_gFlat _) ?d2 ?d3 ?d4 ?d5)
      case d1 => rfl
      case d2 => unfold maxLen; omega
      case d3 => omega
      case d4 => have := HB1.out; simp only [World.size_alloc]; omega
      intro v2 w2 ho hg hat
      have HW2 := Lib.hid (HW.out.next (Grow.of (m := 1) (ys := gFlat [⟨t, 0, c⟩]) ((Below.refl w1.heap.size w1).alloc (Nat.le_refl _) _) (by rw [List.append_assoc]; exact ho) hg (by simpa using hat)))
      clear ho hg hat
      go_wp2
      go_ret
      exact ⟨_, rfl, by rw [HG.out]; exact HW2.out⟩
def Ent.back (x : Ent) : List Gi := giveL x.acc x.item x.coins
theorem back_any (B : Nat) (v : Value) (n : Nat) (xs : List Value) (x : Ent) (w : World) (hB : B ≤ w.heap.size) (hn : n ≤ 5800000000000) (ho : w.ownsRow B 64 3 v n xs) :
    Calls Try.prog 38 #[v, x.agg] w fun r w' => ∃ v', r = .returned v' ∧ Grow B w w' v v' n x.back.length xs (gFlat x.back) := by
  obtain ⟨xa, xi, xc, xp, xw, xk, xs'⟩ := x
  unfold Ent.agg Ent.back
  simp only
  have HB := Lib.hid ((Below.refl w.heap.size w).alloc (Nat.le_refl _) (.cells #[.int .i64 xa, .int .i64 xi, .int .u64 xc, .int .u64 xp, .slice xw xs'.length xk] 33))
  have HO := Lib.hid (Grow.nil ho HB.out)
  have HK := Lib.hid (give_any B v n xs xa xi xc _ (Nat.le_trans hB HB.out.size) hn (by simpa using HO.out.row))
  clear ho HB
  go_enter Try.func38, Try.ntmps38
  go_wp2_with fail
  refine HK.out.mono ?_
  rintro r w1 ⟨v1, rfl, hg⟩
  have HG := Lib.hid (HO.out.next (m := 0) (ys := []) (by simpa using hg))
  clear hg
  go_wp2
  go_ret
  exact ⟨_, rfl, by simpa using HG.out⟩
end Go.Proofs.Ytpejcndfplbikaa
