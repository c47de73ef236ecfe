/-
  Layer 5: the statements' own helpers that read and make slices, walked: same, lent, kept, turned.
-/
import Derived.Test.YtdphcmmpkacmfaaLa
import Derived.Test.YtdphcmmpkacmfaaMem
import Derived.BigQuiet
import Derived.Deep.QuietTactic
namespace Go.Proofs.Ytdphcmmpkacmfaa
open Go.RowKit Go.K
set_option linter.unusedVariables false
attribute [local go_sem] wrap_U8

theorem U8_bne (x y : BitVec 8) : (U8 x != U8 y) = (x != y) := by
  rw [bne, bne]; congr 1
  rw [Bool.eq_iff_iff]; simp only [beq_iff_eq]
  exact ⟨U8_inj, fun h => h ▸ rfl⟩
theorem vBs_ne {l : List (BitVec 8)} {k : Nat} (h : k < l.length) : vBs l ≠ [] := fun e => by
  have := congrArg List.length e
  rw [vBs_length] at this
  simp only [List.length_nil] at this
  omega
theorem same_len (a b : Option Addr) (n m c d : Nat) (w : World) (h : n ≠ m) :
    Calls Try.prog 39 #[.slice a n c, .slice b m d] w fun e w' => e = .returned (.bool false) ∧ Below w.heap.size w w' := by
  have hb : ((n : Int) != (m : Int)) = true := by rw [bne_iff_ne]; omega
  go_enter Try.func39, Try.ntmps39
  go_wp2
  go_ret
  exact ⟨rfl, Below.refl _ _⟩
theorem same_any (a b : Option Addr) (c d : Nat) (l m : List (BitVec 8)) (w : World) (hl : l.length ≤ maxLen) (hlen : l.length = m.length) (ha : Sl w a (vBs l)) (hb : Sl w b (vBs m)) :
    Calls Try.prog 39 #[.slice a l.length c, .slice b m.length d] w fun e w' => e = .returned (.bool (decide (l = m))) ∧ Below w.heap.size w w' := by
  unfold maxLen at hl
  have HA := Lib.hid ha
  have HB := Lib.hid hb
  have HL := Lib.hid hlen
  have hb0 : ((l.length : Int) != (m.length : Int)) = false := by rw [bne_eq_false_iff_eq]; omega
  clear ha hb hlen
  go_enter Try.func39, Try.ntmps39
  go_wp2
  go_loopw [5] (fun i wr => ∃ k : Nat, k ≤ l.length ∧ i = .int .i64 k ∧ l.take k = m.take k ∧ wr.heap = w.heap ∧ Below w.heap.size w wr) (fun i _ => l.length - (intOf i).toNat)
  case atStart => exact ⟨0, by omega, rfl, rfl, rfl, Below.refl _ _⟩
  case round =>
    obtain ⟨k, hk, rfl, htk, hh, hbl⟩ := hrel
    have HT := Lib.hid htk
    have HH := Lib.hid hh
    have HBL := Lib.hid hbl
    clear htk hh hbl
    by_cases hlt : k < l.length
    · have hbk : decide ((k : Int) < (l.length : Int)) = true := by simp; omega
      have hltm : k < m.length := by rw [← HL.out]; exact hlt
      obtain ⟨b1, o1, rfl, hc1⟩ := HA.out (vBs_ne (by assumption))
      obtain ⟨b2, o2, rfl, hc2⟩ := HB.out (vBs_ne (by assumption))
      have h1 := hc1 k (by rw [vBs_length]; exact hlt)
      have h2 := hc2 k (by rw [vBs_length]; exact hltm)
      rw [vBs_get l k hlt] at h1
      rw [vBs_get m k hltm] at h2
      have h1' : wr.cell? ⟨b1, o1 + k, none⟩ = some (.int .u8 (U8 l[k])) := by rw [← h1]; simp [World.cell?, HH.out]
      have h2' : wr.cell? ⟨b2, o2 + k, none⟩ = some (.int .u8 (U8 m[k])) := by rw [← h2]; simp [World.cell?, HH.out]
      have i1 : (k : Int) < (l.length : Int) := by omega
      have i2 : (k : Int) < (m.length : Int) := by omega
      clear hc1 hc2 h1 h2
      have HE := Lib.hid (U8_bne l[k] m[k])
      by_cases he : l[k] = m[k]
      · have hne : (U8 l[k] != U8 m[k]) = false := by rw [HE.out, he]; simp
        have HX := Lib.hid (show l.take (k + 1) = m.take (k + 1) by rw [List.take_succ_eq_append_getElem hlt, List.take_succ_eq_append_getElem hltm, HT.out, he])
        clear HE he
        go_wp2
        go_quiet (fail)
        go_wp2
        go_roundw
        case rel => exact ⟨k + 1, by omega, by go_num, HX.out, HH.out, HBL.out.trans ⟨rfl, rfl, rfl, Nat.le_refl _, fun _ _ => rfl⟩⟩
        case measure => simp [intOf]; omega
      · have hne : (U8 l[k] != U8 m[k]) = true := by rw [HE.out]; simpa using he
        have HX := Lib.hid (show decide (l = m) = false by simp; intro h; subst h; exact he rfl)
        clear HE he
        go_wp2
        go_quiet (fail)
        go_wp2
        go_ret
        exact ⟨by rw [HX.out]; rfl, HBL.out.trans ⟨rfl, rfl, rfl, Nat.le_refl _, fun _ _ => rfl⟩⟩
    · have hbk : decide ((k : Int) < (l.length : Int)) = false := by simp; omega
      have HX := Lib.hid (show decide (l = m) = true by
        have e := HT.out
        rw [List.take_of_length_le (by omega), List.take_of_length_le (by rw [← HL.out]; omega)] at e
        simpa using e)
      go_wp2
      go_ret
      exact ⟨by rw [HX.out]; rfl, HBL.out⟩
theorem Try.info5 : (Try.prog.info? 5).map (fun i => (i.zero, i.size, i.bytes)) = some (some (.int .u8 0), 1, 1) := by kernel_rfl
def marksL (k : Nat) : List (BitVec 8) := [201#8, 202#8, 203#8, 204#8, 205#8].take k
theorem lent_any (a : Option Addr) (c : Nat) (l : List (BitVec 8)) (w : World) (hl : l.length ≤ 140737488351232) (hc : a = none → l.length = 0 ∧ c = 0) (ha : Sl w a (vBs l)) :
    Calls Try.prog 17 #[.slice a l.length c] w fun e w' => ∃ g cap cur, e = .returned (.slice (some ⟨g, 0, none⟩) l.length cap) ∧ w.heap.size ≤ g ∧ w'.heap[g]? = some (.cells cur 5 (0, 0)) ∧ l.length + 5 ≤ cap ∧ cap ≤ maxLen ∧ cur.size = cap ∧
      cur.toList.take (l.length + 5) = vBs (l ++ marksL 5) ∧ Below w.heap.size w w' := by
  have HA := Lib.hid ha
  have HC := Lib.hid hc
  clear ha hc
  go_enter Try.func17, Try.ntmps17
  go_wp2_with (at_builtin; refine wpList_append_sl rfl _ _ 29 rfl w.heap.size 5 (.int .u8 0) 1 1 Try.underlying29 Try.info5 rfl (by decide) _ 0 [] rfl (World.ownsRow_nil _ _ _ _) a l.length c (vBs l) rfl HC.out (by rw [vBs_length]; omega) HA.out (oneCell_vBs l) ?c1 ?c2 (Nat.le_refl _) ?c3)
  case c1 => unfold maxLen; omega
  case c2 => omega
  case c3 =>
    intro v1 w1 hown hgr
    have HO := Lib.hid hown
    have HB := Lib.hid ((Below.refl _ _).grown hgr (Nat.le_refl _) (fun k hk => by cases hk))
    clear hown hgr
    go_wp2
    go_loopw [3, 4] (fun v i wr => ∃ k : Nat, k ≤ 5 ∧ i = .int .i64 k ∧ wr.ownsRow w.heap.size 5 1 v (l.length + k) (vBs (l ++ marksL k)) ∧ Below w.heap.size w wr) (fun _ i _ => 5 - (intOf i).toNat)
    case atStart => exact ⟨0, by omega, rfl, by simpa [marksL] using HO.out, HB.out⟩
    case round =>
      clear HO HB
      obtain ⟨k, hk, rfl, hown, hbl⟩ := hrel
      have HO := Lib.hid hown
      have HB := Lib.hid hbl
      clear hown hbl
      by_cases hlt : k < 5
      · have hbk : decide ((k : Int) < 5) = true := by simp; omega
        have HM := Lib.hid (show vBs (l ++ marksL k) ++ [.int .u8 (U8 (BitVec.ofInt 8 (201 + (k : Int))))] = vBs (l ++ marksL (k + 1)) by
          have : marksL (k + 1) = marksL k ++ [BitVec.ofInt 8 (201 + (k : Int))] := by
            match k, hlt with
            | 0, _ => rfl
            | 1, _ => rfl
            | 2, _ => rfl
            | 3, _ => rfl
            | 4, _ => rfl
          rw [this, ← List.append_assoc, vBs_append (l ++ marksL k)]; rfl)
        go_wp2_with (at_builtin; refine wpList_append_sl rfl _ _ 29 rfl w.heap.size 5 (.int .u8 0) 1 1 Try.underlying29 Try.info5 rfl (by decide) _ (l.length + k) (vBs (l ++ marksL k)) rfl (HO.out.alloc _) (some ⟨wr.heap.size, 0, none⟩) 1 1 [.int .u8 (U8 (BitVec.ofInt 8 (201 + (k : Int))))] rfl (fun h => by cases h) rfl (sl_new wr [.int .u8 (U8 (BitVec.ofInt 8 (201 + (k : Int))))] 5 (0, 0)) (one_int _ _) ?c1 ?c2 ?c3 ?c4)
        case c1 => unfold maxLen; omega
        case c2 => omega
        case c3 => have := HB.out.size; simp; omega
        case c4 =>
          intro v2 w2 hown hgr
          have HO2 := Lib.hid (show w2.ownsRow w.heap.size 5 1 v2 (l.length + (k + 1)) (vBs (l ++ marksL (k + 1))) by rw [← HM.out]; exact hown)
          have HB2 := Lib.hid (show Below w.heap.size w w2 from (HB.out.alloc HB.out.size _).grown hgr (by have := HB.out.size; simp; omega) (fun j hj => (HO.out.lt j hj).1))
          clear hown hgr
          go_wp2
          go_roundw
          case rel => exact ⟨k + 1, by omega, by go_num, HO2.out, HB2.out⟩
          case measure => simp [intOf]; omega
      · have hbk : decide ((k : Int) < 5) = false := by simp; omega
        obtain ⟨g, cap, cur, rfl, hg, hh, hn, hcm, hcs, htk⟩ := owns_cases HO.out (by omega)
        have HH := Lib.hid hh
        have HT := Lib.hid htk
        have i1 : (l.length : Int) ≤ (cap : Int) := by omega
        clear hh htk
        go_wp2
        go_ret
        exact ⟨g, cap, cur, rfl, hg, HH.out, by omega, hcm, by omega, by have := HT.out; rw [Nat.mul_one, show k = 5 by omega] at this; exact this, HB.out⟩
/-- What a lent slice is, seen from later. -/
def Lent (w : World) (l : List (BitVec 8)) (g cap : Nat) : Prop := ∃ cur, w.heap[g]? = some (.cells cur 5 (0, 0)) ∧ l.length + 5 ≤ cap ∧ cap ≤ maxLen ∧ cur.size = cap ∧ cur.toList.take (l.length + 5) = vBs (l ++ marksL 5)
theorem lent_any' (a : Option Addr) (c : Nat) (l : List (BitVec 8)) (w : World) (hl : l.length ≤ 140737488351232) (hc : a = none → l.length = 0 ∧ c = 0) (ha : Sl w a (vBs l)) :
    Calls Try.prog 17 #[.slice a l.length c] w fun e w' => ∃ g cap, e = .returned (.slice (some ⟨g, 0, none⟩) l.length cap) ∧ w.heap.size ≤ g ∧ Lent w' l g cap ∧ Below w.heap.size w w' :=
  (lent_any a c l w hl hc ha).mono fun _ _ ⟨g, cap, cur, he, hg, hh, h1, h2, h3, h4, hb⟩ => ⟨g, cap, he, hg, ⟨cur, hh, h1, h2, h3, h4⟩, hb⟩
theorem Lent.all {w : World} {l : List (BitVec 8)} {g cap : Nat} (h : Lent w l g cap) : Sl w (some ⟨g, 0, none⟩) (vBs (l ++ marksL 5)) := by
  obtain ⟨cur, hh, h1, h2, h3, h4⟩ := h
  intro _
  refine ⟨g, 0, rfl, fun i hi => ?_⟩
  rw [vBs_length, List.length_append] at hi
  rw [cell_of_row _ _ _ _ _ _ hh, ← h4, Nat.zero_add, List.getElem?_take_of_lt (by simpa [marksL] using hi)]
  simp
theorem Sl.pre {w : World} {a : Option Addr} {x y : List Value} (h : Sl w a (x ++ y)) : Sl w a x := by
  intro hne
  obtain ⟨b, off, he, hc⟩ := h (fun e => hne (List.append_eq_nil_iff.1 e).1)
  exact ⟨b, off, he, fun i hi => by rw [hc i (by rw [List.length_append]; omega), List.getElem?_append_left hi]⟩
theorem Lent.sl {w : World} {l : List (BitVec 8)} {g cap : Nat} (h : Lent w l g cap) : Sl w (some ⟨g, 0, none⟩) (vBs l) := by
  have := h.all
  rw [vBs_append] at this
  exact Sl.pre this
theorem Lent.kept {w w' : World} {l : List (BitVec 8)} {g cap : Nat} (h : Lent w l g cap) (hb : Below w.heap.size w w') : Lent w' l g cap := by
  obtain ⟨cur, hh, h1⟩ := h
  exact ⟨cur, (hb.block g (Array.getElem?_eq_some_iff.1 hh).1).trans hh, h1⟩
theorem kept_any (g cap : Nat) (b : Option Addr) (d : Nat) (l : List (BitVec 8)) (w : World) (hl : l.length ≤ 140737488351232) (ha : Lent w l g cap) (hb : Sl w b (vBs l)) :
    Calls Try.prog 23 #[.slice (some ⟨g, 0, none⟩) l.length cap, .slice b l.length d] w fun e w' => e = .returned (.bool true) ∧ Below w.heap.size w w' := by
  have HA := Lib.hid ha
  have HB := Lib.hid hb
  obtain ⟨cur, hh, h1, h2, h3, h4⟩ := ha
  unfold maxLen at h2
  clear hb hh h3 h4
  go_enter Try.func23, Try.ntmps23
  go_wp2_with fail
  refine (same_any _ b cap d l l w (by unfold maxLen; omega) rfl HA.out.sl HB.out).mono ?_
  rintro e w1 ⟨rfl, hb⟩
  rw [show decide (l = l) = true by simp]
  have HBL := Lib.hid hb
  have HA1 := Lib.hid (HA.out.kept hb)
  clear hb HA HB
  have i1 : ((l.length : Int) + 5) ≤ (cap : Int) := by omega
  go_wp2
  go_loop [6] (fun i => ∃ k : Nat, k ≤ 5 ∧ i = .int .i64 k) (fun i => 5 - (intOf i).toNat)
  case atStart => exact ⟨0, by omega, rfl⟩
  case round =>
    obtain ⟨k, hk, rfl⟩ := hrel
    by_cases hlt : k < 5
    · have hbk : decide ((k : Int) < 5) = true := by simp; omega
      obtain ⟨b1, o1, he, hc⟩ := HA1.out.all (by intro e; have := congrArg List.length e; rw [vBs_length, List.length_append] at this; simp [marksL] at this)
      cases he
      have hck := hc (l.length + k) (by rw [vBs_length, List.length_append]; simp [marksL]; omega)
      rw [vBs_get _ _ (by rw [List.length_append]; simp [marksL]; omega)] at hck
      have hmk : U8 ((l ++ marksL 5)[l.length + k]'(by rw [List.length_append]; simp [marksL]; omega)) = U8 (BitVec.ofInt 8 (201 + (k : Int))) := by
        rw [List.getElem_append_right (by omega)]
        congr 1
        match k, hlt with
        | 0, _ => simp [marksL]
        | 1, _ => simp [marksL]
        | 2, _ => simp [marksL]
        | 3, _ => simp [marksL]
        | 4, _ => simp [marksL]
      rw [hmk, Nat.zero_add] at hck
      have i2 : (l.length : Int) + (k : Int) < (l.length : Int) + 5 := by omega
      clear hc hmk
      go_wp2
      go_round
      case rel => exact ⟨k + 1, by omega, by go_num⟩
      case measure => simp [intOf]; omega
    · have hbk : decide ((k : Int) < 5) = false := by simp; omega
      go_wp2
      go_ret
      exact ⟨rfl, HBL.out⟩
end Go.Proofs.Ytdphcmmpkacmfaa
