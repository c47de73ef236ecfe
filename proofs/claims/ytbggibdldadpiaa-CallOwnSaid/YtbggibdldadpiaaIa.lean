/-
  Layer 19: the document's rank: each place by counting who comes ahead.
-/
import Derived.Test.YtbggibdldadpiaaHd
import Derived.Deep.QuietTactic
import Derived.BigQuiet
namespace Go.Proofs.Ytbggibdldadpiaa
open Go.RowKit Go.K
open Go.Stab (swp rot Srt Prm Out)
set_option linter.unusedVariables false
set_option linter.unusedSimpArgs false
/-- Comes place k ahead of place i, as the document asks it? -/
def aheadB (up : Bool) (l : List (BitVec 64)) (k i : Nat) : Bool := (lq l k == lq l i && decide (k < i)) || (lq l k != lq l i && (decide (lq l k < lq l i) != !up))
def cntU (up : Bool) (l : List (BitVec 64)) (i : Nat) : Nat → Nat
  | 0 => 0
  | k + 1 => cntU up l i k + if aheadB up l k i then 1 else 0
theorem aheadB_iff (up : Bool) (l : List (BitVec 64)) (k i : Nat) : aheadB up l k i = true ↔ TU up l k i := by
  unfold aheadB TU
  cases up <;> simp <;> omega
theorem cntU_countP (up : Bool) (l : List (BitVec 64)) (i n : Nat) : cntU up l i n = (List.range n).countP (fun k => aheadB up l k i) := by
  induction n with
  | zero => rfl
  | succ n ih => rw [List.range_succ, List.countP_append, ← ih]; simp only [cntU, List.countP_singleton]
theorem countP_lt (p n : Nat) (h : p ≤ n) : (List.range n).countP (fun q => decide (q < p)) = p := by
  induction n with
  | zero => have : p = 0 := by omega
            rw [this]; rfl
  | succ n ih =>
    rw [List.range_succ, List.countP_append, List.countP_singleton]
    by_cases e : p = n + 1
    · have : (List.range n).countP (fun q => decide (q < p)) = (List.range n).length := by
        rw [List.countP_eq_length]
        intro a ha
        have := List.mem_range.1 ha
        simp; omega
      rw [this, List.length_range]; simp [e]
    · rw [ih (by omega)]; simp; omega
theorem rank_prm {up : Bool} {l : List (BitVec 64)} {d : Nat → Nat} (h : RankZ up l d) : (List.map d (List.range l.length)).Perm (List.range l.length) := by
  have := h.2.1
  unfold Prm Stab.piece at this
  simpa [List.range_eq_range'] using this
theorem cntU_pos {up : Bool} {l : List (BitVec 64)} {d : Nat → Nat} (h : RankZ up l d) (p : Nat) (hp : p < l.length) : cntU up l (d p) l.length = p := by
  rw [cntU_countP, ← (rank_prm h).countP_eq, List.countP_map]
  rw [← countP_lt p l.length (by omega)]
  apply List.countP_congr
  intro q hq
  have hq := List.mem_range.1 hq
  rw [countP_lt p l.length (by omega)]
  show aheadB up l (d q) (d p) = true ↔ decide (q < p) = true
  rw [aheadB_iff, decide_eq_true_iff]
  constructor
  · intro ht
    by_cases e : q < p
    · exact e
    · exfalso
      by_cases e2 : q = p
      · subst e2; exact TU_irr up l _ ht
      · exact TU_irr up l _ (TU_trans up l _ _ _ ht (h.1 p q (Nat.zero_le _) (by omega) hq))
  · intro hlt
    exact h.1 q p (Nat.zero_le _) hlt hp
theorem rank_has {up : Bool} {l : List (BitVec 64)} {d : Nat → Nat} (h : RankZ up l d) (i : Nat) (hi : i < l.length) : ∃ p, p < l.length ∧ d p = i := by
  have := (rank_prm h).mem_iff.2 (List.mem_range.2 hi)
  obtain ⟨p, hp, e⟩ := List.mem_map.1 this
  exact ⟨p, List.mem_range.1 hp, e⟩
theorem rank_inj {up : Bool} {l : List (BitVec 64)} {d : Nat → Nat} (h : RankZ up l d) {p q : Nat} (hp : p < l.length) (hq : q < l.length) (e : d p = d q) : p = q := by
  rw [← cntU_pos h p hp, ← cntU_pos h q hq, e]
/-- The rank as far as place i has been laid. -/
def dRk (d : Nat → Nat) (n i p : Nat) : Nat := if p < n ∧ d p < i then d p else 0
theorem dRk_zero (d : Nat → Nat) (n : Nat) : (fun _ => 0) = dRk d n 0 := by funext p; unfold dRk; rw [if_neg (by omega)]
theorem dRk_step {up : Bool} {l : List (BitVec 64)} {d : Nat → Nat} (h : RankZ up l d) (i : Nat) (hi : i < l.length) : cntU up l i l.length < l.length ∧ upd (dRk d l.length i) (cntU up l i l.length) i = dRk d l.length (i + 1) := by
  obtain ⟨p, hp, e⟩ := rank_has h i hi
  have hc := cntU_pos h p hp
  rw [e] at hc
  rw [hc]
  refine ⟨hp, ?_⟩
  funext q
  unfold upd dRk
  by_cases hq : q = p
  · subst hq; rw [if_pos rfl, if_pos ⟨hp, by omega⟩, e]
  · rw [if_neg hq]
    by_cases hql : q < l.length
    · have hne : d q ≠ i := fun h2 => hq (rank_inj h hql hp (by rw [h2, e]))
      by_cases h3 : d q < i
      · rw [if_pos ⟨hql, h3⟩, if_pos ⟨hql, by omega⟩]
      · rw [if_neg (by omega), if_neg (by omega)]
    · rw [if_neg (by omega), if_neg (by omega)]
theorem dRk_all {up : Bool} {l : List (BitVec 64)} {d : Nat → Nat} (h : RankZ up l d) : dRk d l.length l.length = d := by
  funext p
  unfold dRk
  by_cases hp : p < l.length
  · rw [if_pos ⟨hp, rankz_lt h hp⟩]
  · rw [if_neg (by omega), h.2.2 p (by omega)]
set_option maxRecDepth 100000 in
set_option maxHeartbeats 1000000 in
theorem rrank_any (up : Bool) (l : List (BitVec 64)) (d : Nat → Nat) (hz : RankZ up l d) (aa : Option Addr) (cap : Nat) (w : World) (hn : l.length ≤ 17592186043904) (hs : Sl w aa (vQ l)) :
    Calls Try.prog 44 #[.slice aa l.length cap, .bool (!up)] w fun r w' => ∃ (g : Nat), r = .returned (.slice (some ⟨g, 0, none⟩) l.length l.length) ∧ w.heap.size ≤ g ∧ Rw w' g l.length d ∧ Below w.heap.size w w' := by
  have HS := Lib.hid hs
  have HLT := Lib.hid hs.lt
  clear hs
  have hmk := make24 l.length hn
  obtain ⟨nu, hnu⟩ : ∃ nu, nu = !up := ⟨_, rfl⟩
  rw [← hnu]
  have HNU := Lib.hid hnu
  clear hnu
  go_enter Try.func44, Try.ntmps44
  go_upto_region 2 with fail
  obtain ⟨g, hg⟩ : ∃ g, g = w.heap.size := ⟨_, rfl⟩
  rw [← hg]
  refine wp_world (fun V => Rw V g l.length (dRk d l.length 0) ∧ Below w.heap.size w V) ?_ ?_
  · refine ⟨?_, ?_⟩
    · rw [← dRk_zero]; exact alloc_at (by rw [hg])
    · exact (Below.refl _ _).alloc (Nat.le_refl _) _
  intro V0 h0
  have H0 := Lib.hid h0
  have HGG := Lib.hid hg
  clear h0 hmk hg
  go_wp2
  go_loopw [6, 7, 8] (fun ii x7 x8 V => ∃ i : Nat, i ≤ l.length ∧ ii = .int .i64 i ∧ Rw V g l.length (dRk d l.length i) ∧ Below w.heap.size w V) (fun ii _ _ _ => l.length - (intOf ii).toNat)
  case atStart => exact ⟨0, Nat.zero_le _, rfl, H0.out⟩
  case round =>
    obtain ⟨i, hi, rfl, hm, ho⟩ := hrel
    have HM := Lib.hid hm
    have HO := Lib.hid ho
    clear hm ho
    obtain ⟨wa, hwa⟩ : ∃ W, W = wr := ⟨_, rfl⟩
    subst hwa
    by_cases hlt : i < l.length
    · have t0 : decide ((i : Int) < (l.length : Int)) = true := decide_eq_true (by omega)
      have t0n : decide (i < l.length) = true := decide_eq_true hlt
      have HI := Lib.hid hlt
      have HST := Lib.hid (dRk_step hz i hlt)
      clear hlt hi
      go_wp2
      go_loopw [7, 8] (fun aa8 kk V => ∃ k : Nat, k ≤ l.length ∧ kk = .int .i64 k ∧ aa8 = .int .i64 (cntU up l i k : Nat) ∧ cntU up l i k ≤ k ∧ Qt wa V) (fun _ kk _ => l.length - (intOf kk).toNat)
      case atStart => exact ⟨0, Nat.zero_le _, rfl, rfl, Nat.le_refl _, Qt.refl _⟩
      case round =>
        obtain ⟨k, hk, rfl, rfl, hck, hq⟩ := hrel
        have HQ := Lib.hid hq
        have HCK := Lib.hid hck
        clear hq hck
        by_cases hkl : k < l.length
        · have t1 : decide ((k : Int) < (l.length : Int)) = true := decide_eq_true (by omega)
          have t1n : decide (k < l.length) = true := decide_eq_true hkl
          have kl : (k : Int) < (l.length : Int) := by omega
          have il : (i : Int) < (l.length : Int) := by have := HI.out; omega
          have hsl : Sl wr aa (vQ l) := (HS.out.kept HO.out).kept (HQ.out.below _)
          obtain ⟨b, o, rfl, z1⟩ := vQ_at hsl k hkl
          obtain ⟨b2, o2, he, z2⟩ := vQ_at hsl i HI.out
          injection he with he
          injection he with e1 e2 e3
          rw [← e1, ← e2] at z2
          clear e1 e2 e3 hsl
          have w1 : IntKind.i64.wrap ((k : Int) + 1) = ((k + 1 : Nat) : Int) := by rw [IntKind.wrap_i64]; omega
          have w2 : IntKind.i64.wrap ((cntU up l i k : Int) + 1) = ((cntU up l i k + 1 : Nat) : Int) := by rw [IntKind.wrap_i64]; have := HCK.out; omega
          have HKL := Lib.hid hkl
          have HN := Lib.hid (show cntU up l i (k + 1) = cntU up l i k + if aheadB up l k i then 1 else 0 from rfl)
          by_cases ce : lq l k = lq l i
          · have s1 : ((lq l k : Int) == (lq l i : Int)) = true := by rw [beq_iff_eq]; omega
            have s2 : ((lq l k : Int) != (lq l i : Int)) = false := by rw [bne_eq_false_iff_eq]; omega
            by_cases cl : k < i
            · have s3 : decide ((k : Int) < (i : Int)) = true := decide_eq_true (by omega)
              have s3n : decide (k < i) = true := decide_eq_true cl
              have HAB := Lib.hid (show aheadB up l k i = true by unfold aheadB; simp [ce, cl])
              clear ce cl hk hkl
              generalize lq l k = vk at *
              generalize lq l i = vi at *
              go_wp2
              go_quiet (fail)
              go_wp2
              go_roundw
              case rel => exact ⟨k + 1, HKL.out, by go_num, by rw [HN.out, HAB.out]; go_num, by rw [HN.out, HAB.out]; have := HCK.out; simp; omega, HQ.out.trans (Qt.drewN _ _)⟩
              case measure => have := HKL.out; simp [intOf]; omega
            · have s3 : decide ((k : Int) < (i : Int)) = false := decide_eq_false (by omega)
              have s3n : decide (k < i) = false := decide_eq_false cl
              have HAB := Lib.hid (show aheadB up l k i = false by unfold aheadB; simp [ce, cl])
              clear ce cl hk hkl
              generalize lq l k = vk at *
              generalize lq l i = vi at *
              go_wp2
              go_quiet (fail)
              go_wp2
              go_roundw
              case rel => exact ⟨k + 1, HKL.out, by go_num, by rw [HN.out, HAB.out]; go_num, by rw [HN.out, HAB.out]; have := HCK.out; simp; omega, HQ.out.trans (Qt.drewN _ _)⟩
              case measure => have := HKL.out; simp [intOf]; omega
          · have s1 : ((lq l k : Int) == (lq l i : Int)) = false := by rw [beq_eq_false_iff_ne]; omega
            have s2 : ((lq l k : Int) != (lq l i : Int)) = true := by rw [bne_iff_ne]; omega
            obtain ⟨tl, htl⟩ : ∃ tl, decide ((lq l k : Int) < (lq l i : Int)) = tl := ⟨_, rfl⟩
            have htn : decide (lq l k < lq l i) = tl := by rw [← htl]; exact decide_eq_decide.2 (by omega)
            have HAC := Lib.hid (show aheadB up l k i = (tl != nu) by
              have c1 : (lq l k == lq l i) = false := beq_eq_false_iff_ne.2 ce
              have c2 : (lq l k != lq l i) = true := bne_iff_ne.2 ce
              unfold aheadB; rw [htn, c1, c2, HNU.out]; simp only [Bool.false_and, Bool.false_or, Bool.true_and])
            clear ce hk hkl
            generalize lq l k = vk at *
            generalize lq l i = vi at *
            cases tl
            · cases nu
              · have HAB := Lib.hid (show aheadB up l k i = false from HAC.out)
                go_wp2
                go_quiet (fail)
                go_wp2
                go_roundw
                case rel => exact ⟨k + 1, HKL.out, by go_num, by rw [HN.out, HAB.out]; go_num, by rw [HN.out, HAB.out]; have := HCK.out; simp; omega, HQ.out.trans (Qt.drewN _ _)⟩
                case measure => have := HKL.out; simp [intOf]; omega
              · have HAB := Lib.hid (show aheadB up l k i = true from HAC.out)
                go_wp2
                go_quiet (fail)
                go_wp2
                go_roundw
                case rel => exact ⟨k + 1, HKL.out, by go_num, by rw [HN.out, HAB.out]; go_num, by rw [HN.out, HAB.out]; have := HCK.out; simp; omega, HQ.out.trans (Qt.drewN _ _)⟩
                case measure => have := HKL.out; simp [intOf]; omega
            · cases nu
              · have HAB := Lib.hid (show aheadB up l k i = true from HAC.out)
                go_wp2
                go_quiet (fail)
                go_wp2
                go_roundw
                case rel => exact ⟨k + 1, HKL.out, by go_num, by rw [HN.out, HAB.out]; go_num, by rw [HN.out, HAB.out]; have := HCK.out; simp; omega, HQ.out.trans (Qt.drewN _ _)⟩
                case measure => have := HKL.out; simp [intOf]; omega
              · have HAB := Lib.hid (show aheadB up l k i = false from HAC.out)
                go_wp2
                go_quiet (fail)
                go_wp2
                go_roundw
                case rel => exact ⟨k + 1, HKL.out, by go_num, by rw [HN.out, HAB.out]; go_num, by rw [HN.out, HAB.out]; have := HCK.out; simp; omega, HQ.out.trans (Qt.drewN _ _)⟩
                case measure => have := HKL.out; simp [intOf]; omega
        · have t1 : decide ((k : Int) < (l.length : Int)) = false := decide_eq_false (by omega)
          have t1n : decide (k < l.length) = false := decide_eq_false hkl
          have hke : k = l.length := by omega
          have HE := Lib.hid (show cntU up l i l.length = cntU up l i k by rw [hke])
          clear hkl hk hke
          obtain ⟨cc, hcc⟩ : ∃ cc, cc = cntU up l i k := ⟨_, rfl⟩
          rw [← hcc]
          have HCC := Lib.hid (show cc < l.length ∧ upd (dRk d l.length i) cc i = dRk d l.length (i + 1) by rw [hcc, ← HE.out]; exact HST.out)
          have cl : (cc : Int) < (l.length : Int) := by have := HCC.out.1; omega
          have HMM := Lib.hid (show Rw wr g l.length (dRk d l.length i) from HM.out.kept (HQ.out.below _))
          have w1 : IntKind.i64.wrap ((i : Int) + 1) = ((i + 1 : Nat) : Int) := by rw [IntKind.wrap_i64]; have := HI.out; omega
          clear hcc HE
          go_wp2_with ((with_reducible refine at_store_op ?_); refine wpList_store_lit 3 g cc (rowN (dRk d l.length (i + 1)) l.length).toArray (.int .i64 i) HMM.out szI (by show cc + 1 ≤ (rowN (dRk d l.length i) l.length).toArray.size; have := HCC.out.1; simp [rowN_len]; omega) rfl (by rw [← HCC.out.2]; exact rowN_upd (dRk d l.length i) l.length cc i HCC.out.1) ?_ ?_ ?_; exact rfl; exact rfl; intro V1 hp1; have HP1 := Lib.hid (show Rw V1 g l.length (dRk d l.length (i + 1)) ∧ Below w.heap.size w V1 from ⟨hp1.at', hp1.below (HO.out.trans (HQ.out.below _)) (HO.out.trans (HQ.out.below _)).size (by have := HGG.out; omega)⟩); clear hp1)
          go_roundw
          case rel => exact ⟨i + 1, HI.out, by go_num, HP1.out⟩
          case measure => have := HI.out; simp [intOf]; omega
    · have t0 : decide ((i : Int) < (l.length : Int)) = false := decide_eq_false (by omega)
      have t0n : decide (i < l.length) = false := decide_eq_false hlt
      have hie : i = l.length := by omega
      have HE := Lib.hid (show Rw wa g l.length d from by have := HM.out; rw [hie, dRk_all hz] at this; exact this)
      clear hlt hi hie
      go_wp2
      go_ret
      exact ⟨g, rfl, by have := HGG.out; omega, HE.out, HO.out⟩
end Go.Proofs.Ytbggibdldadpiaa
