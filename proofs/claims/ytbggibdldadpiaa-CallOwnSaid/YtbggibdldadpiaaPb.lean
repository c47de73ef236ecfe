/-
  Layer 19, plain: by Strict, true is best.
-/
import Derived.Test.YtbggibdldadpiaaIa
import Derived.Test.YtbggibdldadpiaaHe
namespace Go.Proofs.Ytbggibdldadpiaa
open Go.RowKit Go.K
open Go.Stab (swp rot Srt Prm Out)
set_option linter.unusedVariables false
set_option linter.unusedSimpArgs false
/-- One rank, as the rank of the others with one set in. -/
structure Ins (n : Nat) (a s : Nat → Int) (j : Nat) (v : Int) : Prop where
  lt : j < n
  lo : ∀ p, p < j → a p = s p
  mid : a j = v
  hi : ∀ p, j ≤ p → p + 1 < n → a (p + 1) = s p
  up : ∀ p q, p ≤ q → q < n → a p ≤ a q
/-- How many deal, whether all that could, and at what. -/
structure Game (n m : Nat) (a b : Nat → Int) (k : Nat) (ok : Bool) (mid : Int) (N : Nat) (g : Int) : Prop where
  kn : k ≤ n
  km : k ≤ m
  le : ∀ i, i < k → a i ≤ b i
  gt : k < n → k < m → b k < a k
  md : k < n → k < m → b k ≤ mid ∧ mid ≤ a k
  okI : ok = true ↔ (k < n ∧ k < m ∧ a (k - 1) ≤ mid ∧ mid ≤ b (k - 1))
  N0 : k = 0 → N = 0
  N1 : 0 < k → ok = true → N = k ∧ g = mid
  N2 : 0 < k → ok = false → N = k - 1 ∧ g = a (k - 1)
theorem same_k {n m : Nat} {a a' b s : Nat → Int} {j j' k k' N N' : Nat} {v r mid mid' g g' : Int} {ok ok' : Bool} (hi : Ins n a s j v) (hi' : Ins n a' s j' r) (h : Game n m a b k ok mid N g) (h' : Game n m a' b k' ok' mid' N' g') (hj : j < k) (hj' : j' < k') : ¬ k < k' := by
  intro hlt
  have h1 := h.gt (by have := h'.kn; omega) (by have := h'.km; omega)
  have h2 := h'.le k hlt
  have h3 := hi.hi (k - 1) (by omega) (by have := h'.kn; omega)
  rw [show k - 1 + 1 = k by omega] at h3
  by_cases c : j' < k
  · have h4 := hi'.hi (k - 1) (by omega) (by have := h'.kn; omega)
    rw [show k - 1 + 1 = k by omega] at h4
    omega
  · have h4 := hi'.lo (k - 1) (by omega)
    have h5 := hi'.up (k - 1) k (by omega) (by have := h'.kn; omega)
    omega
theorem same_get {n m : Nat} {a a' b s : Nat → Int} {j j' k N N' : Nat} {v r mid g g' : Int} (hi : Ins n a s j v) (hi' : Ins n a' s j' r) (h : Game n m a b k true mid N g) (h' : Game n m a' b k false mid N' g') (hj : j < k) (hj' : j' < N') : False := by
  have hk : 0 < k := by omega
  obtain ⟨e1, e2⟩ := h'.N2 hk rfl
  obtain ⟨o1, o2, o3, o4⟩ := h.okI.1 rfl
  have no : ¬ a' (k - 1) ≤ mid := fun hle => by have := h'.okI.2 ⟨o1, o2, hle, o4⟩; cases this
  have h1 := hi'.hi (k - 2) (by omega) (by have := h.kn; omega)
  rw [show k - 2 + 1 = k - 1 by omega] at h1
  by_cases c : j < k - 1
  · have h2 := hi.hi (k - 2) (by omega) (by have := h.kn; omega)
    rw [show k - 2 + 1 = k - 1 by omega] at h2
    omega
  · have h2 := hi.lo (k - 2) (by omega)
    have h3 := hi.up (k - 2) (k - 1) (by omega) (by have := h.kn; omega)
    omega
/-- Nobody earns more by saying another number; who says what is true loses nothing. -/
theorem true_best {n m : Nat} {a a' b s : Nat → Int} {j j' k k' N N' : Nat} {v r mid mid' g g' : Int} {ok ok' : Bool} (hi : Ins n a s j v) (hi' : Ins n a' s j' r) (hb : ∀ p q, p ≤ q → q < m → b q ≤ b p)
    (h : Game n m a b k ok mid N g) (h' : Game n m a' b k' ok' mid' N' g') (hm : k = k' → (k < n → a k = a' k) → k < n → k < m → mid = mid') :
    (0 ≤ if j < N then g - v else 0) ∧ (if j' < N' then g' - v else 0) ≤ (if j < N then g - v else 0) := by
  have hN : N ≤ k := by
    rcases Nat.eq_zero_or_pos k with e | e
    · have := h.N0 e; omega
    · cases ok
      · have := h.N2 e rfl; omega
      · have := h.N1 e rfl; omega
  have hN' : N' ≤ k' := by
    rcases Nat.eq_zero_or_pos k' with e | e
    · have := h'.N0 e; omega
    · cases ok'
      · have := h'.N2 e rfl; omega
      · have := h'.N1 e rfl; omega
  have pos : j < N → v ≤ g := by
    intro hj
    have hk : 0 < k := by omega
    have h1 := hi.up j (k - 1) (by omega) (by have := h.kn; omega)
    have h2 := hi.mid
    cases ok
    · have := h.N2 hk rfl; omega
    · have h3 := h.N1 hk rfl
      have h4 := h.okI.1 rfl
      omega
  refine ⟨by split <;> (try have := pos ‹_›) <;> omega, ?_⟩
  by_cases hj' : j' < N'
  · rw [if_pos hj']
    have hk' : 0 < k' := by omega
    -- both in: the same
    have both : j < k → k = k' ∧ (k < n → a k = a' k) ∧ (k < n → k < m → mid = mid') := by
      intro hjk
      have e : k = k' := by
        rcases Nat.lt_trichotomy k k' with c | c | c
        · exact absurd c (same_k hi hi' h h' hjk (by omega))
        · exact c
        · exact absurd c (same_k hi' hi h' h (by omega) hjk)
      have e2 : k < n → a k = a' k := by
        intro hkn
        have h1 := hi.hi (k - 1) (by omega) (by omega)
        have h2 := hi'.hi (k - 1) (by omega) (by omega)
        rw [show k - 1 + 1 = k by omega] at h1 h2
        omega
      exact ⟨e, e2, hm e e2⟩
    by_cases hj : j < N
    · rw [if_pos hj]
      obtain ⟨e1, e2, e3⟩ := both (by omega)
      subst e1
      have : g = g' := by
        cases ok
        · cases ok'
          · have h1 := h.N2 hk' rfl
            have h2 := h'.N2 hk' rfl
            have h3 := hi.hi (k - 2) (by omega) (by have := h.kn; omega)
            have h4 := hi'.hi (k - 2) (by omega) (by have := h.kn; omega)
            rw [show k - 2 + 1 = k - 1 by omega] at h3 h4
            omega
          · obtain ⟨o1, o2, _, _⟩ := h'.okI.1 rfl
            have e4 := e3 o1 o2
            subst e4
            exact (same_get hi' hi h' h (by omega) hj).elim
        · cases ok'
          · obtain ⟨o1, o2, _, _⟩ := h.okI.1 rfl
            have e4 := e3 o1 o2
            subst e4
            exact (same_get hi hi' h h' (by omega) hj').elim
          · obtain ⟨o1, o2, _, _⟩ := h.okI.1 rfl
            have e4 := e3 o1 o2
            have h1 := h.N1 hk' rfl
            have h2 := h'.N1 hk' rfl
            omega
      omega
    · rw [if_neg hj]
      -- the honest one is out: then the lie gains nothing
      suffices hs : ¬ v < g' by omega
      intro hv
      have hjm := hi.mid
      cases hok : ok' with
      | true =>
        rw [hok] at h'
        obtain ⟨f1, f2⟩ := h'.N1 hk' rfl
        obtain ⟨o1, o2, o3, o4⟩ := h'.okI.1 rfl
        have hmd := h'.md o1 o2
        have q1 := hi'.hi (k' - 1) (by omega) (by omega)
        rw [show k' - 1 + 1 = k' by omega] at q1
        have jk' : j < k' := by
          rcases Nat.lt_or_ge j k' with c | c
          · exact c
          · have q2 := hi.lo (k' - 1) (by omega)
            have q3 := hi.up (k' - 1) j (by omega) hi.lt
            omega
        have jk : j < k := by
          rcases Nat.lt_or_ge j k with c | c
          · exact c
          · have q2 := h.gt (by omega) (by omega)
            have q3 := hi.up k j c hi.lt
            have q4 := hb k (k' - 1) (by omega) (by omega)
            omega
        obtain ⟨e1, e2, e3⟩ := both jk
        subst e1
        have e4 := e3 o1 o2
        subst e4
        cases hok2 : ok with
        | true =>
          rw [hok2] at h
          have := h.N1 hk' rfl
          omega
        | false =>
          rw [hok2] at h
          have w1 := h.N2 hk' rfl
          have w2 : j = k - 1 := by omega
          have no : ¬ a (k - 1) ≤ mid := fun hle => by have := h.okI.2 ⟨o1, o2, hle, o4⟩; cases this
          rw [← w2] at no
          omega
      | false =>
        rw [hok] at h'
        obtain ⟨f1, f2⟩ := h'.N2 hk' rfl
        have q1 := hi'.hi (k' - 2) (by omega) (by have := h'.kn; omega)
        rw [show k' - 2 + 1 = k' - 1 by omega] at q1
        have q0 := h'.le (k' - 1) (by omega)
        have jk' : j < k' - 1 := by
          rcases Nat.lt_or_ge j (k' - 1) with c | c
          · exact c
          · have q2 := hi.lo (k' - 2) (by omega)
            have q3 := hi.up (k' - 2) j (by omega) hi.lt
            omega
        have jk : j < k := by
          rcases Nat.lt_or_ge j k with c | c
          · exact c
          · have q2 := h.gt (by have := h'.kn; omega) (by have := h'.km; omega)
            have q3 := hi.up k j c hi.lt
            have q4 := hb k (k' - 1) (by omega) (by have := h'.km; omega)
            omega
        obtain ⟨e1, e2, e3⟩ := both jk
        subst e1
        cases hok2 : ok with
        | true => rw [hok2] at h; have := h.N1 hk' rfl; omega
        | false => rw [hok2] at h; have := h.N2 hk' rfl; omega
  · rw [if_neg hj']
    split
    · have := pos ‹_›; omega
    · omega
theorem lq_set {l : List (BitVec 64)} {who : Nat} {c : BitVec 64} {i : Nat} (h : i ≠ who) : lq (l.set who c) i = lq l i := by
  unfold lq
  rw [List.getD_eq_getElem?_getD, List.getD_eq_getElem?_getD, List.getElem?_set_ne (fun e => h e.symm)]
theorem TU_set {up : Bool} {l : List (BitVec 64)} {who : Nat} {c : BitVec 64} {x y : Nat} (hx : x ≠ who) (hy : y ≠ who) : TU up (l.set who c) x y ↔ TU up l x y := by
  unfold TU; rw [lq_set hx, lq_set hy]
theorem piece_list (d : Nat → Nat) (n : Nat) : Go.Stab.piece d 0 n = (List.range n).map d := by
  unfold Go.Stab.piece; simp [List.range_eq_range']
theorem erase_perm {l : List Nat} {i : Nat} (h : i < l.length) : l.Perm (l[i] :: l.eraseIdx i) := by
  rw [List.eraseIdx_eq_take_drop_succ]
  have hd : l = l.take i ++ l[i] :: l.drop (i + 1) := by rw [← List.drop_eq_getElem_cons h, List.take_append_drop]
  have hp := List.perm_middle (a := l[i]) (l₁ := l.take i) (l₂ := l.drop (i + 1))
  rw [← hd] at hp
  exact hp
/-- The ranks with one number said otherwise: the others stand alike. -/
theorem ins_ex {up : Bool} {l : List (BitVec 64)} {who : Nat} {c : BitVec 64} {d e : Nat → Nat} (hw : who < l.length) (h1 : RankZ up l d) (h2 : RankZ up (l.set who c) e) :
    ∃ (j j' : Nat) (s : Nat → Nat), j < l.length ∧ j' < l.length ∧ d j = who ∧ e j' = who ∧ (∀ p, p < j → d p = s p) ∧ (∀ p, j ≤ p → p + 1 < l.length → d (p + 1) = s p) ∧ (∀ p, p < j' → e p = s p) ∧ (∀ p, j' ≤ p → p + 1 < l.length → e (p + 1) = s p) ∧ (∀ p, p + 1 < l.length → s p ≠ who) := by
  have hl : (l.set who c).length = l.length := List.length_set
  obtain ⟨j, hj, ej⟩ := rank_has h1 who hw
  obtain ⟨j', hj', ej'⟩ := rank_has h2 who (by rw [hl]; exact hw)
  rw [hl] at hj'
  have p1 := rank_prm h1
  have p2 := rank_prm h2
  have s1 := srt_pair h1.1
  have s2 := srt_pair h2.1
  rw [hl] at p2 s2
  rw [piece_list] at s1 s2
  generalize hD : (List.range l.length).map d = D at *
  generalize hE : (List.range l.length).map e = E at *
  have lD : D.length = l.length := by rw [← hD]; simp
  have lE : E.length = l.length := by rw [← hE]; simp
  have gD : ∀ p (hp : p < l.length), D[p]? = some (d p) := fun p hp => by rw [← hD]; simp [hp]
  have gE : ∀ p (hp : p < l.length), E[p]? = some (e p) := fun p hp => by rw [← hE]; simp [hp]
  have nD : D.Nodup := p1.nodup_iff.2 List.nodup_range
  have nE : E.Nodup := p2.nodup_iff.2 List.nodup_range
  have q1 : D.Perm (who :: D.eraseIdx j) := by
    have : D[j]'(by omega) = who := by have := gD j hj; rw [List.getElem?_eq_getElem (by omega)] at this; injection this with this; rw [this, ej]
    have h := erase_perm (l := D) (i := j) (by omega)
    rw [this] at h
    exact h
  have q2 : E.Perm (who :: E.eraseIdx j') := by
    have : E[j']'(by omega) = who := by have := gE j' hj'; rw [List.getElem?_eq_getElem (by omega)] at this; injection this with this; rw [this, ej']
    have h := erase_perm (l := E) (i := j') (by omega)
    rw [this] at h
    exact h
  have w1 : who ∉ D.eraseIdx j := (List.nodup_cons.1 (q1.nodup_iff.1 nD)).1
  have w2 : who ∉ E.eraseIdx j' := (List.nodup_cons.1 (q2.nodup_iff.1 nE)).1
  have q3 : (D.eraseIdx j).Perm (E.eraseIdx j') := (List.perm_cons who).1 ((q1.symm.trans (p1.trans p2.symm)).trans q2)
  have t1 : (D.eraseIdx j).Pairwise (TU up (l.set who c)) := by
    have := s1.sublist (List.eraseIdx_sublist D j)
    refine List.Pairwise.imp_of_mem (fun {x y} hx hy ht => ?_) this
    exact (TU_set (fun e => w1 (by rw [← e]; exact hx)) (fun e => w1 (by rw [← e]; exact hy))).2 ht
  have t2 : (E.eraseIdx j').Pairwise (TU up (l.set who c)) := s2.sublist (List.eraseIdx_sublist E j')
  have he := cnt_lt (TU_irr up _) (TU_trans up _) _ _ q3 t1 t2
  have lX : (D.eraseIdx j).length = l.length - 1 := by rw [List.length_eraseIdx, if_pos (by omega), lD]
  refine ⟨j, j', fun p => (D.eraseIdx j).getD p 0, hj, hj', ej, ej', ?_, ?_, ?_, ?_, ?_⟩
  · intro p hp
    show d p = (D.eraseIdx j).getD p 0
    rw [List.getD_eq_getElem?_getD, List.getElem?_eraseIdx, if_pos hp, gD p (by omega)]; rfl
  · intro p hp hp2
    show d (p + 1) = (D.eraseIdx j).getD p 0
    rw [List.getD_eq_getElem?_getD, List.getElem?_eraseIdx, if_neg (by omega), gD (p + 1) hp2]; rfl
  · intro p hp
    show e p = (D.eraseIdx j).getD p 0
    rw [he, List.getD_eq_getElem?_getD, List.getElem?_eraseIdx, if_pos hp, gE p (by omega)]; rfl
  · intro p hp hp2
    show e (p + 1) = (D.eraseIdx j).getD p 0
    rw [he, List.getD_eq_getElem?_getD, List.getElem?_eraseIdx, if_neg (by omega), gE (p + 1) hp2]; rfl
  · intro p hp e
    apply w1
    have hlt : p < (D.eraseIdx j).length := by omega
    have : (D.eraseIdx j).getD p 0 = (D.eraseIdx j)[p] := by rw [List.getD_eq_getElem?_getD, List.getElem?_eq_getElem hlt]; rfl
    rw [← e]
    show (D.eraseIdx j).getD p 0 ∈ _
    rw [this]
    exact List.getElem_mem hlt
/-- A list's number counts among those who deal just where its rank does. -/
theorem in_rank {up : Bool} {l : List (BitVec 64)} {d : Nat → Nat} (h : RankZ up l d) {j N : Nat} (hj : j < l.length) (hN : N ≤ l.length) : (∃ q, q < N ∧ d q = d j) ↔ j < N := by
  constructor
  · rintro ⟨q, hq, e⟩
    have := rank_inj h (by omega) hj e
    omega
  · intro hlt; exact ⟨j, hlt, rfl⟩
theorem stN_le {xs ys : List (BitVec 64)} {da db : Nat → Nat} {k : Nat} : stN xs ys da db k ≤ k := by
  unfold stN; split <;> (try split) <;> omega
theorem stOK_iff {xs ys : List (BitVec 64)} {da db : Nat → Nat} {k : Nat} : stOK xs ys da db k = true ↔ (k < xs.length ∧ k < ys.length ∧ lq xs (da (k - 1)) ≤ stMid xs ys da db k ∧ stMid xs ys da db k ≤ lq ys (db (k - 1))) := by
  unfold stOK
  simp only [Bool.and_eq_true, decide_eq_true_iff]
  constructor
  · rintro ⟨⟨⟨h1, h2⟩, h3⟩, h4⟩; exact ⟨h1, h2, h3, h4⟩
  · rintro ⟨h1, h2, h3, h4⟩; exact ⟨⟨⟨h1, h2⟩, h3⟩, h4⟩
theorem game_ask {xs ys : List (BitVec 64)} {da db : Nat → Nat} {k : Nat} (ha : RankZ true xs da) (hb : RankZ false ys db) (hk : KV xs ys da db k) :
    Game xs.length ys.length (fun p => (lq xs (da p) : Int)) (fun p => (lq ys (db p) : Int)) k (stOK xs ys da db k) (stMid xs ys da db k : Nat) (stN xs ys da db k) (if stOK xs ys da db k then ((stMid xs ys da db k : Nat) : Int) else (lq xs (da (k - 1)) : Int)) where
  kn := hk.1
  km := hk.2.1
  le := fun i hi => by have := hk.2.2.1 i hi; show (lq xs (da i) : Int) ≤ (lq ys (db i) : Int); omega
  gt := fun h1 h2 => by have := hk.2.2.2 h1 h2; show (lq ys (db k) : Int) < (lq xs (da k) : Int); omega
  md := fun h1 h2 => by
    have := hk.2.2.2 h1 h2
    show (lq ys (db k) : Int) ≤ _ ∧ _ ≤ (lq xs (da k) : Int)
    unfold stMid; omega
  okI := by
    rw [stOK_iff]
    constructor
    · rintro ⟨h1, h2, h3, h4⟩; exact ⟨h1, h2, Int.ofNat_le.2 h3, Int.ofNat_le.2 h4⟩
    · rintro ⟨h1, h2, h3, h4⟩; exact ⟨h1, h2, Int.ofNat_le.1 h3, Int.ofNat_le.1 h4⟩
  N0 := fun h => by unfold stN; rw [if_pos h]
  N1 := fun h1 h2 => by unfold stN; rw [if_neg (by omega), h2]; exact ⟨rfl, rfl⟩
  N2 := fun h1 h2 => by unfold stN; rw [if_neg (by omega), h2]; exact ⟨rfl, rfl⟩
theorem game_bid {xs ys : List (BitVec 64)} {da db : Nat → Nat} {k : Nat} (ha : RankZ true xs da) (hb : RankZ false ys db) (hk : KV xs ys da db k) :
    Game ys.length xs.length (fun p => -(lq ys (db p) : Int)) (fun p => -(lq xs (da p) : Int)) k (stOK xs ys da db k) (-(stMid xs ys da db k : Nat)) (stN xs ys da db k) (if stOK xs ys da db k then -((stMid xs ys da db k : Nat) : Int) else -(lq ys (db (k - 1)) : Int)) where
  kn := hk.2.1
  km := hk.1
  le := fun i hi => by have := hk.2.2.1 i hi; show -(lq ys (db i) : Int) ≤ -(lq xs (da i) : Int); omega
  gt := fun h1 h2 => by have := hk.2.2.2 h2 h1; show -(lq xs (da k) : Int) < -(lq ys (db k) : Int); omega
  md := fun h1 h2 => by
    have := hk.2.2.2 h2 h1
    show -(lq xs (da k) : Int) ≤ _ ∧ _ ≤ -(lq ys (db k) : Int)
    unfold stMid; omega
  okI := by
    rw [stOK_iff]
    constructor
    · rintro ⟨h1, h2, h3, h4⟩; exact ⟨h2, h1, by show -(lq ys (db (k - 1)) : Int) ≤ _; omega, by show _ ≤ -(lq xs (da (k - 1)) : Int); omega⟩
    · rintro ⟨h1, h2, h3, h4⟩
      have h3' : -(lq ys (db (k - 1)) : Int) ≤ -(stMid xs ys da db k : Nat) := h3
      have h4' : -((stMid xs ys da db k : Nat) : Int) ≤ -(lq xs (da (k - 1)) : Int) := h4
      exact ⟨h2, h1, by omega, by omega⟩
  N0 := fun h => by unfold stN; rw [if_pos h]
  N1 := fun h1 h2 => by unfold stN; rw [if_neg (by omega), h2]; exact ⟨rfl, rfl⟩
  N2 := fun h1 h2 => by unfold stN; rw [if_neg (by omega), h2]; exact ⟨rfl, rfl⟩
end Go.Proofs.Ytbggibdldadpiaa
