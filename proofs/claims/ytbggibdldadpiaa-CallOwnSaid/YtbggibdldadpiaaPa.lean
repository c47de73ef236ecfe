/-
  Layer 19, plain: nobody is worse off, the price parts, at no price would more deal, no pairs gain more.
-/
import Derived.Test.YtbggibdldadpiaaIa
namespace Go.Proofs.Ytbggibdldadpiaa
open Go.RowKit Go.K
open Go.Stab (swp rot Srt Prm Out)
set_option linter.unusedVariables false
set_option linter.unusedSimpArgs false
/-- A price that parts those who deal from those who don't. -/
def Parts (xs ys : List (BitVec 64)) (da db : Nat → Nat) (k p : Nat) : Prop := (∀ i, i < k → lq xs (da i) ≤ p ∧ p ≤ lq ys (db i)) ∧ (∀ i, k ≤ i → i < xs.length → p ≤ lq xs (da i)) ∧ (∀ i, k ≤ i → i < ys.length → lq ys (db i) ≤ p)
theorem parts_price {xs ys : List (BitVec 64)} {da db : Nat → Nat} {k : Nat} (ha : RankZ true xs da) (hb : RankZ false ys db) (hk : KV xs ys da db k) (h0 : 0 < k) : Parts xs ys da db k (priceV xs ys da db k) := by
  have hlh := low_high ha hb hk h0
  obtain ⟨k1, k2, k3, k4⟩ := hk
  have hp : lowV xs ys da db k ≤ priceV xs ys da db k ∧ priceV xs ys da db k ≤ highV xs ys da db k := by
    unfold priceV; rw [if_neg (by omega)]; omega
  generalize priceV xs ys da db k = p at *
  have a1 : lq xs (da (k - 1)) ≤ p := by
    have := hp.1; unfold lowV at this; split at this <;> omega
  have b1 : p ≤ lq ys (db (k - 1)) := by
    have := hp.2; unfold highV at this; split at this <;> omega
  refine ⟨fun i hi => ⟨?_, ?_⟩, fun i hi hl => ?_, fun i hi hl => ?_⟩
  · have := rank_up ha (show i ≤ k - 1 by omega) (by omega); omega
  · have := rank_down hb (show i ≤ k - 1 by omega) (by omega); omega
  · have h1 := rank_up ha hi hl
    have := hp.2; unfold highV at this; rw [if_pos (by omega)] at this; omega
  · have h1 := rank_down hb hi hl
    have := hp.1; unfold lowV at this; rw [if_pos (by omega)] at this; omega
theorem parts_some {xs ys : List (BitVec 64)} {da db : Nat → Nat} {k : Nat} (ha : RankZ true xs da) (hb : RankZ false ys db) (hk : KV xs ys da db k) : ∃ p, Parts xs ys da db k p := by
  by_cases h0 : k = 0
  · subst h0
    by_cases hy : 0 < ys.length
    · refine ⟨lq ys (db 0), fun i hi => absurd hi (Nat.not_lt_zero _), fun i _ hl => ?_, fun i _ hl => rank_down hb (Nat.zero_le i) hl⟩
      have h1 := rank_up ha (Nat.zero_le i) hl
      have h2 := hk.2.2.2 (by omega) hy
      omega
    · exact ⟨0, fun i hi => absurd hi (Nat.not_lt_zero _), fun i _ hl => Nat.zero_le _, fun i _ hl => by omega⟩
  · exact ⟨_, parts_price ha hb hk (by omega)⟩
/-- Is a pair one that gains? -/
def okP (xs ys : List (BitVec 64)) (a b : Int) : Bool := !(decide (a < 0) || decide ((xs.length : Int) ≤ a) || decide (b < 0) || decide ((ys.length : Int) ≤ b) || decide (lq ys b.toNat < lq xs a.toNat))
def gain1 (xs ys : List (BitVec 64)) (a b : Int) : Nat := if okP xs ys a b then lq ys b.toNat - lq xs a.toNat else 0
/-- What the first n pairs gain. -/
def gn (xs ys : List (BitVec 64)) (x y : Nat → Int) : Nat → Nat
  | 0 => 0
  | n + 1 => gn xs ys x y n + gain1 xs ys (x n) (y n)
def sumN (f : Nat → Nat) : Nat → Nat
  | 0 => 0
  | n + 1 => sumN f n + f n
theorem sumN_le {f g : Nat → Nat} {n : Nat} (h : ∀ i, i < n → f i ≤ g i) : sumN f n ≤ sumN g n := by
  induction n with
  | zero => exact Nat.le_refl _
  | succ n ih => have := ih (fun i hi => h i (by omega)); have := h n (by omega); simp only [sumN]; omega
theorem sumN_congr {f g : Nat → Nat} {n : Nat} (h : ∀ i, i < n → f i = g i) : sumN f n = sumN g n := by
  induction n with
  | zero => rfl
  | succ n ih => simp only [sumN]; rw [ih (fun i hi => h i (by omega)), h n (by omega)]
theorem sumN_add (f g : Nat → Nat) (n : Nat) : sumN (fun i => f i + g i) n = sumN f n + sumN g n := by
  induction n with
  | zero => rfl
  | succ n ih => simp only [sumN]; omega
theorem sumN_list (f : Nat → Nat) (n : Nat) : sumN f n = ((List.range n).map f).sum := by
  induction n with
  | zero => rfl
  | succ n ih => rw [List.range_succ, List.map_append, List.sum_append, ← ih]; simp [sumN]
theorem sumN_cut {f : Nat → Nat} {k n : Nat} (hk : k ≤ n) (h : ∀ i, k ≤ i → i < n → f i = 0) : sumN f n = sumN f k := by
  induction n with
  | zero => have : k = 0 := by omega
            rw [this]
  | succ n ih =>
    by_cases e : k = n + 1
    · rw [e]
    · simp only [sumN]
      rw [ih (by omega) (fun i h1 h2 => h i h1 (by omega)), h n (by omega) (by omega)]; rfl
theorem sum_nodup (f : Nat → Nat) (n : Nat) : ∀ l : List Nat, l.Nodup → (∀ a ∈ l, a < n) → (l.map f).sum ≤ sumN f n := by
  induction n with
  | zero =>
    intro l _ h
    cases l with
    | nil => exact Nat.le_refl _
    | cons a l => exact absurd (h a (List.mem_cons_self ..)) (Nat.not_lt_zero _)
  | succ n ih =>
    intro l hn h
    by_cases hm : n ∈ l
    · have hp := List.perm_cons_erase hm
      have h2 := ih (l.erase n) (hn.erase n) (fun a ha => by
        have h3 := h a (List.mem_of_mem_erase ha)
        have h4 : a ≠ n := fun e => by subst e; exact (List.Nodup.not_mem_erase hn) ha
        omega)
      rw [(hp.map f).sum_nat, List.map_cons, List.sum_cons]
      simp only [sumN]; omega
    · have h2 := ih l hn (fun a ha => by
        have h3 := h a ha
        have h4 : a ≠ n := fun e => hm (e ▸ ha)
        omega)
      simp only [sumN]; omega
theorem rank_sum {up : Bool} {l : List (BitVec 64)} {d : Nat → Nat} (h : RankZ up l d) (f : Nat → Nat) : sumN (fun q => f (d q)) l.length = sumN f l.length := by
  rw [sumN_list, sumN_list, show (fun q => f (d q)) = f ∘ d from rfl, ← List.map_map]
  exact ((rank_prm h).map f).sum_nat
/-- Places in range, each once. -/
def PlacedP (x : Nat → Int) (n m : Nat) : Prop := (∀ i, i < n → 0 ≤ x i ∧ x i < (m : Int)) ∧ (∀ i j, i < n → j < n → x i = x j → i = j)
theorem placed_sum {x : Nat → Int} {n m : Nat} (h : PlacedP x n m) (f : Nat → Nat) : sumN (fun i => f (x i).toNat) n ≤ sumN f m := by
  have e : sumN (fun i => f (x i).toNat) n = (((List.range n).map fun i => (x i).toNat).map f).sum := by
    rw [sumN_list, List.map_map]; rfl
  rw [e]
  apply sum_nodup
  · unfold List.Nodup
    rw [List.pairwise_map]
    refine List.Pairwise.imp_of_mem (R := fun a b => a < b) (fun {a b} ha hb hab => ?_) List.pairwise_lt_range
    intro e2
    have ha := List.mem_range.1 ha
    have hb := List.mem_range.1 hb
    have h1 := h.1 a ha
    have h2 := h.1 b hb
    have := h.2 a b ha hb (by omega)
    omega
  · intro a ha
    obtain ⟨i, hi, rfl⟩ := List.mem_map.1 ha
    have := h.1 i (List.mem_range.1 hi)
    omega
theorem gn_le {xs ys : List (BitVec 64)} {x y : Nat → Int} {n : Nat} (hx : PlacedP x n xs.length) (hy : PlacedP y n ys.length) (p : Nat) : gn xs ys x y n ≤ sumN (fun j => lq ys j - p) ys.length + sumN (fun j => p - lq xs j) xs.length := by
  have h1 := placed_sum hx (fun j => p - lq xs j)
  have h2 := placed_sum hy (fun j => lq ys j - p)
  have h3 : gn xs ys x y n ≤ sumN (fun i => (lq ys (y i).toNat - p) + (p - lq xs (x i).toNat)) n := by
    clear h1 h2 hx hy
    induction n with
    | zero => exact Nat.le_refl _
    | succ n ih =>
      simp only [gn, sumN]
      have : gain1 xs ys (x n) (y n) ≤ (lq ys (y n).toNat - p) + (p - lq xs (x n).toNat) := by unfold gain1; split <;> omega
      omega
  rw [sumN_add] at h3
  omega
theorem PlacedP.short {x : Nat → Int} {n m k : Nat} (h : PlacedP x n m) (hk : k ≤ n) : PlacedP x k m := ⟨fun i hi => h.1 i (by omega), fun i j hi hj => h.2 i j (by omega) (by omega)⟩
theorem gn_deal {xs ys : List (BitVec 64)} {da db : Nat → Nat} {k p : Nat} (ha : RankZ true xs da) (hb : RankZ false ys db) (hk : KV xs ys da db k) (hp : Parts xs ys da db k p) (x y : Nat → Int) (hx : ∀ i, i < k → x i = (da i : Int)) (hy : ∀ i, i < k → y i = (db i : Int)) :
    gn xs ys x y k = sumN (fun j => lq ys j - p) ys.length + sumN (fun j => p - lq xs j) xs.length := by
  obtain ⟨p1, p2, p3⟩ := hp
  have h1 : sumN (fun j => lq ys j - p) ys.length = sumN (fun q => lq ys (db q) - p) k := by
    rw [← rank_sum hb (fun j => lq ys j - p)]
    exact sumN_cut hk.2.1 (fun i h1 h2 => by have := p3 i h1 h2; show lq ys (db i) - p = 0; omega)
  have h2 : sumN (fun j => p - lq xs j) xs.length = sumN (fun q => p - lq xs (da q)) k := by
    rw [← rank_sum ha (fun j => p - lq xs j)]
    exact sumN_cut hk.1 (fun i h1 h2 => by have := p2 i h1 h2; show p - lq xs (da i) = 0; omega)
  rw [h1, h2, ← sumN_add]
  have hk1 := hk.1
  have hk2 := hk.2.1
  have ra : ∀ i, i < k → da i < xs.length := fun i hi => rankz_lt ha (by omega)
  have rb : ∀ i, i < k → db i < ys.length := fun i hi => rankz_lt hb (by omega)
  clear h1 h2 hk p2 p3 ha hb hk1 hk2
  induction k with
  | zero => rfl
  | succ k ih =>
    simp only [gn, sumN]
    rw [ih (fun i hi => hx i (by omega)) (fun i hi => hy i (by omega)) (fun i hi => p1 i (by omega)) (fun i hi => ra i (by omega)) (fun i hi => rb i (by omega))]
    have h1 := p1 k (by omega)
    have h2 := ra k (by omega)
    have h3 := rb k (by omega)
    have e : gain1 xs ys (x k) (y k) = lq ys (db k) - lq xs (da k) := by
      rw [hx k (by omega), hy k (by omega)]
      unfold gain1 okP
      rw [Int.toNat_natCast, Int.toNat_natCast]
      rw [if_pos]
      simp
      omega
    omega
/-- No pairs gain more. -/
theorem gain_best {xs ys : List (BitVec 64)} {da db : Nat → Nat} {k : Nat} (ha : RankZ true xs da) (hb : RankZ false ys db) (hk : KV xs ys da db k) {x y u v : Nat → Int} {nx ny : Nat} (hx : PlacedP x nx xs.length) (hy : PlacedP y ny ys.length) (hu : ∀ i, i < k → u i = (da i : Int)) (hv : ∀ i, i < k → v i = (db i : Int)) :
    gn xs ys x y (min nx ny) ≤ gn xs ys u v k := by
  obtain ⟨p, hp⟩ := parts_some ha hb hk
  rw [gn_deal ha hb hk hp u v hu hv]
  exact gn_le (hx.short (Nat.min_le_left _ _)) (hy.short (Nat.min_le_right _ _)) p
/-- How many asks are at most a price, how many bids at least. -/
def cLe (xs : List (BitVec 64)) (p : Nat) : Nat → Nat
  | 0 => 0
  | n + 1 => cLe xs p n + if lq xs n ≤ p then 1 else 0
def cGe (ys : List (BitVec 64)) (p : Nat) : Nat → Nat
  | 0 => 0
  | n + 1 => cGe ys p n + if p ≤ lq ys n then 1 else 0
theorem cLe_sum (xs : List (BitVec 64)) (p n : Nat) : cLe xs p n = sumN (fun j => if lq xs j ≤ p then 1 else 0) n := by
  induction n with
  | zero => rfl
  | succ n ih => simp only [cLe, sumN, ih]
theorem cGe_sum (xs : List (BitVec 64)) (p n : Nat) : cGe xs p n = sumN (fun j => if p ≤ lq xs j then 1 else 0) n := by
  induction n with
  | zero => rfl
  | succ n ih => simp only [cGe, sumN, ih]
theorem sumN_one {f : Nat → Nat} {k : Nat} (h : ∀ i, f i ≤ 1) : sumN f k ≤ k := by
  induction k with
  | zero => exact Nat.le_refl _
  | succ k ih => have := h k; simp only [sumN]; omega
theorem deals_le {xs ys : List (BitVec 64)} {da db : Nat → Nat} {k : Nat} (ha : RankZ true xs da) (hb : RankZ false ys db) (hk : KV xs ys da db k) (p : Nat) : min (cLe xs p xs.length) (cGe ys p ys.length) ≤ k := by
  rw [cLe_sum, cGe_sum, ← rank_sum ha (fun j => if lq xs j ≤ p then 1 else 0), ← rank_sum hb (fun j => if p ≤ lq ys j then 1 else 0)]
  by_cases c1 : k < xs.length ∧ lq xs (da k) ≤ p
  · have hcut : sumN (fun q => if p ≤ lq ys (db q) then 1 else 0) ys.length = sumN (fun q => if p ≤ lq ys (db q) then 1 else 0) k := by
      refine sumN_cut hk.2.1 (fun i h1 h2 => ?_)
      have h3 := rank_down hb h1 h2
      have h4 := hk.2.2.2 c1.1 (by omega)
      show (if p ≤ lq ys (db i) then 1 else 0) = 0
      rw [if_neg (by omega)]
    have := sumN_one (f := fun q => if p ≤ lq ys (db q) then 1 else 0) (k := k) (fun i => by show (if _ then 1 else 0) ≤ 1; split <;> omega)
    omega
  · have hcut : sumN (fun q => if lq xs (da q) ≤ p then 1 else 0) xs.length = sumN (fun q => if lq xs (da q) ≤ p then 1 else 0) k := by
      refine sumN_cut hk.1 (fun i h1 h2 => ?_)
      have h3 := rank_up ha h1 h2
      show (if lq xs (da i) ≤ p then 1 else 0) = 0
      rw [if_neg (by omega)]
    have := sumN_one (f := fun q => if lq xs (da q) ≤ p then 1 else 0) (k := k) (fun i => by show (if _ then 1 else 0) ≤ 1; split <;> omega)
    omega
end Go.Proofs.Ytbggibdldadpiaa
