/-
  Layer 1: the statements' own helpers: same, lent, kept.
-/
import Derived.Test.YtdkfaicmdbhonaaWf
namespace Go.Proofs.Ytdkfaicmdbhonaa
open Go.RowKit Go.K Go.Words
set_option linter.unusedVariables false
set_option linter.unusedSimpArgs false

theorem same_len (a b : Option Addr) (n m c d : Nat) (w : World) (h : n ≠ m) :
    Calls Try.prog 36 #[.slice a n c, .slice b m d] w fun e w' => e = .returned (.bool false) ∧ Qt w w' := by
  have hb : ((n : Int) != (m : Int)) = true := by rw [bne_iff_ne]; omega
  go_enter Try.func36, Try.ntmps36
  go_wp2
  go_ret
  exact ⟨rfl, Qt.refl _⟩
theorem same_any (a b : Option Addr) (c d : Nat) (l m : List (BitVec 64)) (w : World) (hl : l.length ≤ maxLen) (hlen : l.length = m.length) (ha : Sl w a (vQ l)) (hb : Sl w b (vQ m)) :
    Calls Try.prog 36 #[.slice a l.length c, .slice b m.length d] w fun e w' => e = .returned (.bool (decide (l = m))) ∧ Qt w w' := by
  unfold maxLen at hl
  have HA := Lib.hid ha
  have HB := Lib.hid hb
  have HL := Lib.hid hlen
  have hb0 : ((l.length : Int) != (m.length : Int)) = false := by rw [bne_eq_false_iff_eq]; omega
  clear ha hb hlen
  go_enter Try.func36, Try.ntmps36
  go_wp2
  go_loopw [5] (fun i wr => ∃ k : Nat, k ≤ l.length ∧ i = .int .i64 k ∧ l.take k = m.take k ∧ Qt w wr) (fun i _ => l.length - (intOf i).toNat)
  case atStart => exact ⟨0, by omega, rfl, rfl, Qt.refl _⟩
  case round =>
    obtain ⟨k, hk, rfl, htk, hq⟩ := hrel
    have HT := Lib.hid htk
    have HQ := Lib.hid hq
    clear htk hq
    by_cases hlt : k < l.length
    · have hbk : decide ((k : Int) < (l.length : Int)) = true := by simp; omega
      have hltm : k < m.length := by rw [← HL.out]; exact hlt
      obtain ⟨b1, o1, rfl, hc1⟩ := (HQ.out.sl HA.out) (vQ_ne hlt)
      obtain ⟨b2, o2, rfl, hc2⟩ := (HQ.out.sl HB.out) (vQ_ne hltm)
      have h1 := hc1 k (by rw [vQ_length]; exact hlt)
      have h2 := hc2 k (by rw [vQ_length]; exact hltm)
      rw [vQ_get l k hlt] at h1
      rw [vQ_get m k hltm] at h2
      have i1 : (k : Int) < (l.length : Int) := by omega
      have i2 : (k : Int) < (m.length : Int) := by omega
      clear hc1 hc2
      have HE := Lib.hid (U64_bne l[k] m[k])
      by_cases he : l[k] = m[k]
      · have hne : (U64 l[k] != U64 m[k]) = false := by rw [HE.out, he]; simp
        have HX := Lib.hid (show l.take (k + 1) = m.take (k + 1) by rw [List.take_succ_eq_append_getElem hlt, List.take_succ_eq_append_getElem hltm, HT.out, he])
        clear HE he
        go_wp2
        go_quiet (fail)
        go_wp2
        go_roundw
        case rel => exact ⟨k + 1, by omega, by go_num, HX.out, HQ.out.trans ⟨_, rfl⟩⟩
        case measure => simp [intOf]; omega
      · have hne : (U64 l[k] != U64 m[k]) = true := by rw [HE.out]; simpa using he
        have HX := Lib.hid (show decide (l = m) = false by simp; intro h; subst h; exact he rfl)
        clear HE he
        go_wp2
        go_quiet (fail)
        go_wp2
        go_ret
        exact ⟨by rw [HX.out]; rfl, HQ.out.trans ⟨_, rfl⟩⟩
    · have hbk : decide ((k : Int) < (l.length : Int)) = false := by simp; omega
      have HX := Lib.hid (show decide (l = m) = true by
        have e := HT.out
        rw [List.take_of_length_le (by omega), List.take_of_length_le (by rw [← HL.out]; omega)] at e
        simpa using e)
      go_wp2
      go_ret
      exact ⟨by rw [HX.out]; rfl, HQ.out⟩
def markV (k : Nat) : BitVec 64 := BitVec.ofNat 64 (771 + k)
def marksL (k : Nat) : List (BitVec 64) := (List.range k).map markV
theorem marksL_length (k : Nat) : (marksL k).length = k := by simp [marksL]
theorem marksL_succ (k : Nat) : marksL (k + 1) = marksL k ++ [markV k] := by simp [marksL, List.range_succ]
theorem marksL_get (k i : Nat) (h : i < k) : (marksL k)[i]? = some (markV i) := by simp [marksL, h]
theorem markV_x (k : Nat) (h : k < 1000) : U64 (markV k) = 771 + (k : Int) := by
  unfold U64 markV; rw [BitVec.toNat_ofNat, Nat.mod_eq_of_lt (by omega)]; omega
/-- What a lent slice is, seen from later. -/
def Lent (w : World) (l : List (BitVec 64)) (g cap : Nat) : Prop := ∃ cur, w.heap[g]? = some (.cells cur 24 (0, 0)) ∧ l.length + 40 ≤ cap ∧ cap ≤ maxLen ∧ cur.size = cap ∧ cur.toList.take (l.length + 40) = vQ (l ++ marksL 40)
theorem lent_any (a : Option Addr) (c : Nat) (l : List (BitVec 64)) (w : World) (hl : l.length ≤ 17592186043904) (hc : a = none → l.length = 0 ∧ c = 0) (ha : Sl w a (vQ l)) :
    Calls Try.prog 12 #[.slice a l.length c] w fun e w' => ∃ g cap, e = .returned (.slice (some ⟨g, 0, none⟩) l.length cap) ∧ w.heap.size ≤ g ∧ Lent w' l g cap ∧ Below w.heap.size w w' := by
  have HA := Lib.hid ha
  have HC := Lib.hid hc
  clear ha hc
  go_enter Try.func12, Try.ntmps12
  go_wp2_with (at_builtin; refine wpList_append_sl rfl _ _ 22 rfl w.heap.size 24 (.int .u64 0) 1 8 Try.underlying22 Try.info24 rfl (by decide) _ 0 [] rfl (World.ownsRow_nil _ _ _ _) a l.length c (vQ l) rfl HC.out (by rw [vQ_length]; omega) HA.out (oneCell_vQ l) ?c1 ?c2 (Nat.le_refl _) ?c3)
  case c1 => unfold maxLen; omega
  case c2 => omega
  case c3 =>
    intro v1 w1 hown hgr
    have HO := Lib.hid hown
    have HB := Lib.hid ((Below.refl _ _).grown hgr (Nat.le_refl _) (fun k hk => by cases hk))
    clear hown hgr
    go_wp2
    go_loopw [3, 4] (fun v i wr => ∃ k : Nat, k ≤ 40 ∧ i = .int .i64 k ∧ wr.ownsRow w.heap.size 24 1 v (l.length + k) (vQ (l ++ marksL k)) ∧ Below w.heap.size w wr) (fun _ i _ => 40 - (intOf i).toNat)
    case atStart => exact ⟨0, by omega, rfl, by simpa [marksL] using HO.out, HB.out⟩
    case round =>
      clear HO HB
      obtain ⟨k, hk, rfl, hown, hbl⟩ := hrel
      have HO := Lib.hid hown
      have HB := Lib.hid hbl
      clear hown hbl
      by_cases hlt : k < 40
      · have hbk : decide ((k : Int) < 40) = true := by simp; omega
        have HM := Lib.hid (show vQ (l ++ marksL k) ++ [.int .u64 (771 + (k : Int))] = vQ (l ++ marksL (k + 1)) by
          rw [marksL_succ, ← List.append_assoc, vQ_append (l ++ marksL k), ← markV_x k (by omega)]; rfl)
        go_wp2_with (at_builtin; refine wpList_append_sl rfl _ _ 22 rfl w.heap.size 24 (.int .u64 0) 1 8 Try.underlying22 Try.info24 rfl (by decide) _ (l.length + k) (vQ (l ++ marksL k)) rfl (HO.out.alloc _) (some ⟨wr.heap.size, 0, none⟩) 1 1 [.int .u64 (771 + (k : Int))] rfl (fun h => by cases h) rfl (sl_new wr [.int .u64 (771 + (k : Int))] 24 (0, 0)) (one_int _ _) ?c1 ?c2 ?c3 ?c4)
        case c1 => unfold maxLen; omega
        case c2 => omega
        case c3 => have := HB.out.size; simp; omega
        case c4 =>
          intro v2 w2 hown hgr
          have HO2 := Lib.hid (show w2.ownsRow w.heap.size 24 1 v2 (l.length + (k + 1)) (vQ (l ++ marksL (k + 1))) by rw [← HM.out]; exact hown)
          have HB2 := Lib.hid (show Below w.heap.size w w2 from (HB.out.alloc HB.out.size _).grown hgr (by have := HB.out.size; simp; omega) (fun j hj => (HO.out.lt j hj).1))
          clear hown hgr
          go_wp2
          go_roundw
          case rel => exact ⟨k + 1, by omega, by go_num, HO2.out, HB2.out⟩
          case measure => simp [intOf]; omega
      · have hbk : decide ((k : Int) < 40) = false := by simp; omega
        obtain ⟨g, cap, cur, rfl, hg, hh, hn, hcm, hcs, htk⟩ := owns_cases HO.out (by omega)
        have HH := Lib.hid hh
        have HT := Lib.hid htk
        have i1 : (l.length : Int) ≤ (cap : Int) := by omega
        clear hh htk
        go_wp2
        go_ret
        exact ⟨g, cap, rfl, hg, ⟨cur, HH.out, by omega, hcm, by omega, by have := HT.out; rw [Nat.mul_one, show k = 40 by omega] at this; exact this⟩, HB.out⟩
theorem Lent.all {w : World} {l : List (BitVec 64)} {g cap : Nat} (h : Lent w l g cap) : Sl w (some ⟨g, 0, none⟩) (vQ (l ++ marksL 40)) := by
  obtain ⟨cur, hh, h1, h2, h3, h4⟩ := h
  intro _
  refine ⟨g, 0, rfl, fun i hi => ?_⟩
  rw [vQ_length, List.length_append, marksL_length] at hi
  rw [cell_of_row _ _ _ _ _ _ hh, ← h4, Nat.zero_add, List.getElem?_take_of_lt hi]
  simp
theorem Sl.pre {w : World} {a : Option Addr} {x y : List Value} (h : Sl w a (x ++ y)) : Sl w a x := by
  intro hne
  obtain ⟨b, off, he, hc⟩ := h (fun e => hne (List.append_eq_nil_iff.1 e).1)
  exact ⟨b, off, he, fun i hi => by rw [hc i (by rw [List.length_append]; omega), List.getElem?_append_left hi]⟩
theorem Lent.sl {w : World} {l : List (BitVec 64)} {g cap : Nat} (h : Lent w l g cap) : Sl w (some ⟨g, 0, none⟩) (vQ l) := by
  have := h.all
  rw [vQ_append] at this
  exact Sl.pre this
theorem Lent.kept {w w' : World} {l : List (BitVec 64)} {g cap : Nat} (h : Lent w l g cap) (hb : Below w.heap.size w w') : Lent w' l g cap := by
  obtain ⟨cur, hh, h1⟩ := h
  exact ⟨cur, row_kept hh hb, h1⟩
/-- A place of a lent slice is written over. -/
theorem Lent.set {w : World} {l : List (BitVec 64)} {g cap : Nat} (h : Lent w l g cap) (k : Nat) (hk : k < l.length) (c : BitVec 64) : Lent (w.setCell ⟨g, k, none⟩ (.int .u64 (U64 c))) (l.set k c) g cap := by
  obtain ⟨cur, hh, h1, h2, h3, h4⟩ := h
  refine ⟨cur.setIfInBounds k (.int .u64 (U64 c)), heap_setCell_same _ _ _ _ _ _ hh, by rw [List.length_set]; exact h1, h2, by rw [Array.size_setIfInBounds]; exact h3, ?_⟩
  rw [List.length_set, Array.toList_setIfInBounds, List.take_set, h4, vQ_set, List.set_append, if_pos hk]
set_option maxRecDepth 100000 in
theorem kept_any (g cap : Nat) (b : Option Addr) (d : Nat) (l : List (BitVec 64)) (w : World) (hl : l.length ≤ 17592186043904) (ha : Lent w l g cap) (hb : Sl w b (vQ l)) :
    Calls Try.prog 15 #[.slice (some ⟨g, 0, none⟩) l.length cap, .slice b l.length d] w fun e w' => e = .returned (.bool true) ∧ Qt w w' := by
  have HA := Lib.hid ha
  have HB := Lib.hid hb
  obtain ⟨cur, hh, h1, h2, h3, h4⟩ := ha
  unfold maxLen at h2
  clear hb hh h3 h4
  go_enter Try.func15, Try.ntmps15
  go_wp2_with fail
  refine (same_any _ b cap d l l w (by unfold maxLen; omega) rfl HA.out.sl HB.out).mono ?_
  rintro e w1 ⟨rfl, hq⟩
  rw [show decide (l = l) = true by simp]
  have HQ := Lib.hid hq
  have HA1 := Lib.hid (HA.out.kept (hq.below _))
  clear hq HA HB
  have i1 : ((l.length : Int) + 40) ≤ (cap : Int) := by omega
  go_wp2
  go_loop [6] (fun i => ∃ k : Nat, k ≤ 40 ∧ i = .int .i64 k) (fun i => 40 - (intOf i).toNat)
  case atStart => exact ⟨0, by omega, rfl⟩
  case round =>
    obtain ⟨k, hk, rfl⟩ := hrel
    by_cases hlt : k < 40
    · have hbk : decide ((k : Int) < 40) = true := by simp; omega
      have hlen : (vQ (l ++ marksL 40)).length = l.length + 40 := by rw [vQ_length, List.length_append, marksL_length]
      obtain ⟨b1, o1, he, hc⟩ := HA1.out.all (by intro e; rw [e] at hlen; simp at hlen)
      cases he
      have hck := hc (l.length + k) (by rw [hlen]; omega)
      have hmk : (vQ (l ++ marksL 40))[l.length + k]? = some (.int .u64 (771 + (k : Int))) := by
        rw [vQ, List.getElem?_map, List.getElem?_append_right (by omega), show l.length + k - l.length = k by omega, marksL_get 40 k hlt]
        simp only [Option.map_some]; rw [markV_x k (by omega)]
      rw [hmk, Nat.zero_add] at hck
      have i2 : (l.length : Int) + (k : Int) < (l.length : Int) + 40 := by omega
      clear hc hmk hlen
      go_wp2
      go_round
      case rel => exact ⟨k + 1, by omega, by go_num⟩
      case measure => simp [intOf]; omega
    · have hbk : decide ((k : Int) < 40) = false := by simp; omega
      go_wp2
      go_ret
      exact ⟨rfl, HQ.out⟩
end Go.Proofs.Ytdkfaicmdbhonaa
