/-
  Layer 19: the statements' own helpers: same, sameCounts, lent, kept, alike.
-/
import Derived.Test.YtbggibdldadpiaaIc
import Derived.Deep.QuietTactic
import Derived.BigQuiet
namespace Go.Proofs.Ytbggibdldadpiaa
open Go.RowKit Go.K
open Go.Stab (swp rot Srt Prm Out)
set_option linter.unusedVariables false
set_option linter.unusedSimpArgs false
def vI (l : List Int) : List Value := l.map fun c => .int .i64 c
theorem vI_length (l : List Int) : (vI l).length = l.length := by simp [vI]
theorem vI_get (l : List Int) (i : Nat) (h : i < l.length) : (vI l)[i]? = some (.int .i64 l[i]) := by
  simp [vI, List.getElem?_eq_getElem h]
theorem vI_append (l m : List Int) : vI (l ++ m) = vI l ++ vI m := by simp [vI]
theorem vI_ne {l : List Int} {k : Nat} (h : k < l.length) : vI l ≠ [] := fun e => by
  have := congrArg List.length e
  rw [vI_length] at this
  simp only [List.length_nil] at this
  omega
theorem oneCell_vI (l : List Int) : ∀ u ∈ vI l, u.oneCell' = true := by
  intro u hu
  obtain ⟨c, _, rfl⟩ := List.mem_map.1 hu
  rfl
/-- A rank's row as a list of whole numbers. -/
def rowL (d : Nat → Nat) (n : Nat) : List Int := (List.range n).map fun k => (d k : Int)
theorem rowL_len (d : Nat → Nat) (n : Nat) : (rowL d n).length = n := by unfold rowL; simp
theorem rowN_vI (d : Nat → Nat) (n : Nat) : rowN d n = vI (rowL d n) := by unfold rowN vI rowL; rw [List.map_map]; rfl
theorem vQ_append (l m : List (BitVec 64)) : vQ (l ++ m) = vQ l ++ vQ m := by simp [vQ]
theorem vQ_get (l : List (BitVec 64)) (i : Nat) (h : i < l.length) : (vQ l)[i]? = some (.int .u64 (U64 l[i])) := by
  simp [vQ, List.getElem?_eq_getElem h]
theorem vQ_ne {l : List (BitVec 64)} {k : Nat} (h : k < l.length) : vQ l ≠ [] := fun e => by
  have := congrArg List.length e
  rw [vQ_length] at this
  simp only [List.length_nil] at this
  omega
theorem oneCell_vQ (l : List (BitVec 64)) : ∀ u ∈ vQ l, u.oneCell' = true := by
  intro u hu
  obtain ⟨c, _, rfl⟩ := List.mem_map.1 hu
  rfl
theorem same_true (a b : Option Addr) (c d : Nat) (l : List Int) (w : World) (hl : l.length ≤ maxLen) (ha : Sl w a (vI l)) (hb : Sl w b (vI l)) :
    Calls Try.prog 24 #[.slice a l.length c, .slice b l.length d] w fun e w' => e = .returned (.bool true) ∧ Qt w w' := by
  unfold maxLen at hl
  have HA := Lib.hid ha
  have HB := Lib.hid hb
  have hb0 : ((l.length : Int) != (l.length : Int)) = false := by simp
  clear ha hb
  go_enter Try.func24, Try.ntmps24
  go_wp2
  go_loopw [5] (fun i wr => ∃ k : Nat, k ≤ l.length ∧ i = .int .i64 k ∧ Qt w wr) (fun i _ => l.length - (intOf i).toNat)
  case atStart => exact ⟨0, by omega, rfl, Qt.refl _⟩
  case round =>
    obtain ⟨k, hk, rfl, hq⟩ := hrel
    have HQ := Lib.hid hq
    clear hq
    by_cases hlt : k < l.length
    · have hbk : decide ((k : Int) < (l.length : Int)) = true := by simp; omega
      obtain ⟨b1, o1, rfl, hc1⟩ := (HA.out.kept (HQ.out.below _)) (vI_ne hlt)
      obtain ⟨b2, o2, rfl, hc2⟩ := (HB.out.kept (HQ.out.below _)) (vI_ne hlt)
      have h1 := hc1 k (by rw [vI_length]; exact hlt)
      have h2 := hc2 k (by rw [vI_length]; exact hlt)
      rw [vI_get l k hlt] at h1 h2
      have i1 : (k : Int) < (l.length : Int) := by omega
      have hne : (l[k] != l[k]) = false := by simp
      clear hc1 hc2
      go_wp2
      go_quiet (fail)
      go_wp2
      go_roundw
      case rel => exact ⟨k + 1, by omega, by go_num, HQ.out.trans ⟨_, rfl⟩⟩
      case measure => simp [intOf]; omega
    · have hbk : decide ((k : Int) < (l.length : Int)) = false := by simp; omega
      go_wp2
      go_ret
      exact ⟨rfl, HQ.out⟩
theorem sameC_true (a b : Option Addr) (c d : Nat) (l : List (BitVec 64)) (w : World) (hl : l.length ≤ maxLen) (ha : Sl w a (vQ l)) (hb : Sl w b (vQ l)) :
    Calls Try.prog 47 #[.slice a l.length c, .slice b l.length d] w fun e w' => e = .returned (.bool true) ∧ Qt w w' := by
  unfold maxLen at hl
  have HA := Lib.hid ha
  have HB := Lib.hid hb
  have hb0 : ((l.length : Int) != (l.length : Int)) = false := by simp
  clear ha hb
  go_enter Try.func47, Try.ntmps47
  go_wp2
  go_loopw [5] (fun i wr => ∃ k : Nat, k ≤ l.length ∧ i = .int .i64 k ∧ Qt w wr) (fun i _ => l.length - (intOf i).toNat)
  case atStart => exact ⟨0, by omega, rfl, Qt.refl _⟩
  case round =>
    obtain ⟨k, hk, rfl, hq⟩ := hrel
    have HQ := Lib.hid hq
    clear hq
    by_cases hlt : k < l.length
    · have hbk : decide ((k : Int) < (l.length : Int)) = true := by simp; omega
      obtain ⟨b1, o1, rfl, hc1⟩ := (HA.out.kept (HQ.out.below _)) (vQ_ne hlt)
      obtain ⟨b2, o2, rfl, hc2⟩ := (HB.out.kept (HQ.out.below _)) (vQ_ne hlt)
      have h1 := hc1 k (by rw [vQ_length]; exact hlt)
      have h2 := hc2 k (by rw [vQ_length]; exact hlt)
      rw [vQ_get l k hlt] at h1 h2
      have i1 : (k : Int) < (l.length : Int) := by omega
      generalize U64 l[k] = u at *
      have hne : (u != u) = false := by simp
      clear hc1 hc2
      go_wp2
      go_quiet (fail)
      go_wp2
      go_roundw
      case rel => exact ⟨k + 1, by omega, by go_num, HQ.out.trans ⟨_, rfl⟩⟩
      case measure => simp [intOf]; omega
    · have hbk : decide ((k : Int) < (l.length : Int)) = false := by simp; omega
      go_wp2
      go_ret
      exact ⟨rfl, HQ.out⟩
theorem Try.info23 : (Try.prog.info? 23).map (fun i => (i.zero, i.size, i.bytes)) = some (some (.int .u64 0), 1, 8) := by kernel_rfl
def marksQ (k : Nat) : List (BitVec 64) := (List.range k).map fun i => BitVec.ofNat 64 (771 + i)
theorem marksQ_len (k : Nat) : (marksQ k).length = k := by unfold marksQ; simp
theorem marksQ_step (l : List (BitVec 64)) (k m : Nat) (hk : k < 40) (hm : m = 771 + k) : vQ (l ++ marksQ k) ++ [.int .u64 (m : Int)] = vQ (l ++ marksQ (k + 1)) := by
  have h1 : marksQ (k + 1) = marksQ k ++ [BitVec.ofNat 64 m] := by unfold marksQ; rw [List.range_succ, List.map_append, hm]; rfl
  have h2 : U64 (BitVec.ofNat 64 m) = (m : Int) := by unfold U64; rw [BitVec.toNat_ofNat]; omega
  rw [h1, ← List.append_assoc, vQ_append (l ++ marksQ k)]
  show _ = _ ++ [Value.int .u64 (U64 (BitVec.ofNat 64 m))]
  rw [h2]
/-- What a lent list is: the numbers, the marks behind them. -/
def LentQ (w : World) (l : List (BitVec 64)) (g cap : Nat) : Prop := ∃ cur, w.heap[g]? = some (.cells cur 23) ∧ l.length + 40 ≤ cap ∧ cap ≤ maxLen ∧ cur.size = cap ∧ cur.toList.take (l.length + 40) = vQ (l ++ marksQ 40)
theorem one_u64 (z : Int) : ∀ u ∈ [Value.int .u64 z], u.oneCell' = true := by
  intro u hu
  rw [List.mem_singleton.1 hu]; rfl
set_option maxRecDepth 100000 in
theorem lent_any (a : Option Addr) (c : Nat) (l : List (BitVec 64)) (w : World) (hl : l.length ≤ 1000000) (hc : a = none → l.length = 0 ∧ c = 0) (ha : Sl w a (vQ l)) :
    Calls Try.prog 9 #[.slice a l.length c] w fun e w' => ∃ g cap, e = .returned (.slice (some ⟨g, 0, none⟩) l.length cap) ∧ w.heap.size ≤ g ∧ LentQ w' l g cap ∧ Below w.heap.size w w' := by
  have HA := Lib.hid ha
  have HC := Lib.hid hc
  clear ha hc
  go_enter Try.func9, Try.ntmps9
  go_wp2_with (at_builtin; refine wpList_append_sl rfl _ _ 22 rfl w.heap.size 23 (.int .u64 0) 1 8 Try.underlying22 Try.info23 rfl (by decide) _ 0 [] rfl (World.ownsRow_nil _ _ _ _) a l.length c (vQ l) rfl HC.out (by rw [vQ_length]; omega) HA.out (oneCell_vQ l) ?c1 ?c2 (Nat.le_refl _) ?c3)
  case c1 => unfold maxLen; omega
  case c2 => omega
  case c3 =>
    intro v1 w1 hown hgr
    have HO := Lib.hid hown
    have HB := Lib.hid ((Below.refl _ _).grown hgr (Nat.le_refl _) (fun k hk => by cases hk))
    clear hown hgr
    go_wp2
    go_loopw [3, 4] (fun v i wr => ∃ k : Nat, k ≤ 40 ∧ i = .int .i64 k ∧ wr.ownsRow w.heap.size 23 1 v (l.length + k) (vQ (l ++ marksQ k)) ∧ Below w.heap.size w wr) (fun _ i _ => 40 - (intOf i).toNat)
    case atStart => exact ⟨0, by omega, rfl, by simpa [marksQ] using HO.out, HB.out⟩
    case round =>
      clear HO HB
      obtain ⟨k, hk, rfl, hown, hbl⟩ := hrel
      have HO := Lib.hid hown
      have HB := Lib.hid hbl
      clear hown hbl
      by_cases hlt : k < 40
      · have hbk : decide ((k : Int) < 40) = true := by simp; omega
        obtain ⟨m, hm⟩ : ∃ m, m = 771 + k := ⟨_, rfl⟩
        have HM := Lib.hid (marksQ_step l k m hlt hm)
        have w1' : IntKind.i64.wrap (771 + (k : Int)) = (m : Int) := by rw [IntKind.wrap_i64]; omega
        have w2' : IntKind.u64.wrap (m : Int) = (m : Int) := by rw [IntKind.wrap_u64]; omega
        have w4' : IntKind.i64.wrap ((k : Int) + 1) = ((k + 1 : Nat) : Int) := by rw [IntKind.wrap_i64]; omega
        have HK := Lib.hid hlt
        clear hm hlt hk
        go_wp2_with (at_builtin; refine wpList_append_sl rfl _ _ 22 rfl w.heap.size 23 (.int .u64 0) 1 8 Try.underlying22 Try.info23 rfl (by decide) _ (l.length + k) (vQ (l ++ marksQ k)) rfl (HO.out.alloc _) (some ⟨wr.heap.size, 0, none⟩) 1 1 [.int .u64 (m : Int)] rfl (fun h => by cases h) rfl (sl_new wr [.int .u64 (m : Int)] 23 (0, 0)) (one_u64 _) ?c1 ?c2 ?c3 ?c4)
        case c1 => unfold maxLen; have := HK.out; omega
        case c2 => have := HK.out; omega
        case c3 => have := HB.out.size; simp; omega
        case c4 =>
          intro v2 w2 hown hgr
          have HO2 := Lib.hid (show w2.ownsRow w.heap.size 23 1 v2 (l.length + (k + 1)) (vQ (l ++ marksQ (k + 1))) by rw [← HM.out]; exact hown)
          have HB2 := Lib.hid (show Below w.heap.size w w2 from (HB.out.alloc HB.out.size _).grown hgr (by have := HB.out.size; simp; omega) (fun j hj => (HO.out.lt j hj).1))
          clear hown hgr
          go_wp2
          go_roundw
          case rel => exact ⟨k + 1, HK.out, by go_num, HO2.out, HB2.out⟩
          case measure => have := HK.out; simp [intOf]; omega
      · have hbk : decide ((k : Int) < 40) = false := by simp; omega
        obtain ⟨g, cap, cur, rfl, hg, hh, hn, hcm, hcs, htk⟩ := owns_cases HO.out (by omega)
        have HH := Lib.hid hh
        have HT := Lib.hid htk
        have i1 : (l.length : Int) ≤ (cap : Int) := by omega
        clear hh htk
        go_wp2
        go_ret
        exact ⟨g, cap, rfl, hg, ⟨cur, HH.out, by omega, hcm, by omega, by have := HT.out; rw [Nat.mul_one, show k = 40 by omega] at this; exact this⟩, HB.out⟩
theorem LentQ.all {w : World} {l : List (BitVec 64)} {g cap : Nat} (h : LentQ w l g cap) : Sl w (some ⟨g, 0, none⟩) (vQ (l ++ marksQ 40)) := by
  obtain ⟨cur, hh, h1, h2, h3, h4⟩ := h
  intro _
  refine ⟨g, 0, rfl, fun i hi => ?_⟩
  rw [vQ_length, List.length_append, marksQ_len] at hi
  rw [cell_of_row _ _ _ _ _ _ hh, ← h4, Nat.zero_add, List.getElem?_take_of_lt hi]
  simp
theorem Sl.pre {w : World} {a : Option Addr} {x y : List Value} (h : Sl w a (x ++ y)) : Sl w a x := by
  intro hne
  obtain ⟨b, off, he, hc⟩ := h (fun e => hne (List.append_eq_nil_iff.1 e).1)
  exact ⟨b, off, he, fun i hi => by rw [hc i (by rw [List.length_append]; omega), List.getElem?_append_left hi]⟩
theorem LentQ.sl {w : World} {l : List (BitVec 64)} {g cap : Nat} (h : LentQ w l g cap) : Sl w (some ⟨g, 0, none⟩) (vQ l) := by
  have := h.all
  rw [vQ_append] at this
  exact Sl.pre this
theorem LentQ.kept {w w' : World} {l : List (BitVec 64)} {g cap : Nat} (h : LentQ w l g cap) (hb : Below w.heap.size w w') : LentQ w' l g cap := by
  obtain ⟨cur, hh, h1⟩ := h
  exact ⟨cur, (hb.block g (Array.getElem?_eq_some_iff.1 hh).1).trans hh, h1⟩
theorem LentQ.only {w w' : World} {l : List (BitVec 64)} {g cap : Nat} {S : Nat → Prop} (h : LentQ w l g cap) (hb : Only S w w') (hS : ¬ S g) : LentQ w' l g cap := by
  obtain ⟨cur, hh, h1⟩ := h
  exact ⟨cur, hb.row hh hS, h1⟩
theorem LentQ.lt {w : World} {l : List (BitVec 64)} {g cap : Nat} (h : LentQ w l g cap) : g < w.heap.size := by
  obtain ⟨cur, hh, _⟩ := h
  exact lt_row hh
set_option maxRecDepth 100000 in
theorem kept_true (g cap : Nat) (b : Option Addr) (d : Nat) (l : List (BitVec 64)) (w : World) (hl : l.length ≤ 1000000) (ha : LentQ w l g cap) (hb : Sl w b (vQ l)) :
    Calls Try.prog 23 #[.slice (some ⟨g, 0, none⟩) l.length cap, .slice b l.length d] w fun e w' => e = .returned (.bool true) ∧ Qt w w' := by
  have HAL := Lib.hid ha.all
  obtain ⟨n, hn⟩ : ∃ n, n = l.length + 40 := ⟨_, rfl⟩
  have hcap : n ≤ cap := by obtain ⟨_, _, h1, _⟩ := ha; omega
  have HS := Lib.hid (sameC_true (some ⟨g, 0, none⟩) b cap d l w (by unfold maxLen; omega) ha.sl hb)
  have i0 : (n : Int) ≤ (cap : Int) := by omega
  have w0 : IntKind.i64.wrap ((l.length : Int) + 40) = (n : Int) := by rw [IntKind.wrap_i64]; omega
  have HN := Lib.hid (show n = l.length + 40 ∧ l.length ≤ 1000000 from ⟨hn, hl⟩)
  clear ha hb hn hcap hl
  go_enter Try.func23, Try.ntmps23
  go_wp2_with (go_at_call 24; fail)
  refine HS.out.mono ?_
  rintro e w1 ⟨rfl, hq⟩
  have HQ := Lib.hid hq
  clear hq
  go_wp2
  go_loopw [6] (fun i wr => ∃ k : Nat, k ≤ 40 ∧ i = .int .i64 k ∧ Qt w wr) (fun i _ => 40 - (intOf i).toNat)
  case atStart => exact ⟨0, by omega, rfl, HQ.out⟩
  case round =>
    obtain ⟨k, hk, rfl, hq⟩ := hrel
    have HQ2 := Lib.hid hq
    clear hq
    by_cases hlt : k < 40
    · have hbk : decide ((k : Int) < 40) = true := by simp; omega
      obtain ⟨m, hm⟩ : ∃ m, m = 771 + k := ⟨_, rfl⟩
      obtain ⟨j, hj⟩ : ∃ j, j = l.length + k := ⟨_, rfl⟩
      have hlen : j < (l ++ marksQ 40).length := by rw [List.length_append, marksQ_len]; omega
      obtain ⟨b1, o1, he, hc1⟩ := (HAL.out.kept (HQ2.out.below _)) (vQ_ne hlen)
      injection he with he
      injection he with e1 e2 e3
      subst e1 e2
      have h1 := hc1 j (by rw [vQ_length]; exact hlen)
      rw [vQ_get _ j hlen] at h1
      have hv : (l ++ marksQ 40)[j] = BitVec.ofNat 64 m := by
        rw [List.getElem_append_right (by omega)]
        unfold marksQ
        rw [List.getElem_map, List.getElem_range]
        congr 1; omega
      rw [Nat.zero_add, hv, show U64 (BitVec.ofNat 64 m) = (m : Int) by unfold U64; rw [BitVec.toNat_ofNat]; omega] at h1
      have i1 : (j : Int) < (n : Int) := by have := HN.out; omega
      have w1' : IntKind.i64.wrap (771 + (k : Int)) = (m : Int) := by rw [IntKind.wrap_i64]; omega
      have w2' : IntKind.u64.wrap (m : Int) = (m : Int) := by rw [IntKind.wrap_u64]; omega
      have w3' : IntKind.i64.wrap ((l.length : Int) + (k : Int)) = (j : Int) := by rw [IntKind.wrap_i64]; have := HN.out; omega
      have w4' : IntKind.i64.wrap ((k : Int) + 1) = ((k + 1 : Nat) : Int) := by rw [IntKind.wrap_i64]; omega
      have hne : ((m : Int) != (m : Int)) = false := by simp
      have HK := Lib.hid hlt
      clear hc1 hm hj hlen hv hlt hk e3
      go_wp2
      go_roundw
      case rel => exact ⟨k + 1, HK.out, by go_num, HQ2.out⟩
      case measure => have := HK.out; simp [intOf]; omega
    · have hbk : decide ((k : Int) < 40) = false := by simp; omega
      go_wp2
      go_ret
      exact ⟨rfl, HQ2.out⟩
set_option maxRecDepth 100000 in
theorem alike_true (n p q : Nat) (d e : Nat → Nat) (a1 a2 b1 b2 : Option Addr) (c1 c2 d1 d2 : Nat) (w : World) (hn : n ≤ 1000000) (ha : Sl w a1 (rowN d n)) (hb : Sl w b1 (rowN d n)) (hc : Sl w a2 (rowN e n)) (hd : Sl w b2 (rowN e n)) :
    Calls Try.prog 20 #[.agg (dlA a1 c1 a2 c2 n p q), .agg (dlA b1 d1 b2 d2 n p q)] w fun r w' => r = .returned (.bool true) ∧ Below w.heap.size w w' := by
  obtain ⟨w1, hw1⟩ : ∃ w1, w1 = (w.alloc (.cells (dlA a1 c1 a2 c2 n p q) 27)).alloc (.cells (dlA b1 d1 b2 d2 n p q) 44) := ⟨_, rfl⟩
  have HB := Lib.hid (show Below w.heap.size w w1 by rw [hw1]; exact ((Below.refl _ _).alloc (Nat.le_refl _) _).alloc (by simp) _)
  have hr1 : w1.heap[w.heap.size]? = some (.cells (dlA a1 c1 a2 c2 n p q) 27) := by rw [hw1]; exact alloc_old (alloc_at rfl)
  have hr2 : w1.heap[w.heap.size + 1]? = some (.cells (dlA b1 d1 b2 d2 n p q) 44) := by rw [hw1]; exact alloc_at (by simp)
  have H1 := Lib.hid (show ∀ V, Qt w1 V → Calls Try.prog 24 #[.slice a1 n c1, .slice b1 n d1] V fun e w' => e = .returned (.bool true) ∧ Qt w1 w' from fun V hV => by
    have := same_true a1 b1 c1 d1 (rowL d n) V (by rw [rowL_len]; unfold maxLen; omega) (by rw [← rowN_vI]; exact (ha.kept HB.out).kept (hV.below _)) (by rw [← rowN_vI]; exact (hb.kept HB.out).kept (hV.below _))
    rw [rowL_len] at this
    exact this.mono fun _ _ ⟨h1, h2⟩ => ⟨h1, hV.trans h2⟩)
  have H2 := Lib.hid (show ∀ V, Qt w1 V → Calls Try.prog 24 #[.slice a2 n c2, .slice b2 n d2] V fun e w' => e = .returned (.bool true) ∧ Qt w1 w' from fun V hV => by
    have := same_true a2 b2 c2 d2 (rowL e n) V (by rw [rowL_len]; unfold maxLen; omega) (by rw [← rowN_vI]; exact (hc.kept HB.out).kept (hV.below _)) (by rw [← rowN_vI]; exact (hd.kept HB.out).kept (hV.below _))
    rw [rowL_len] at this
    exact this.mono fun _ _ ⟨h1, h2⟩ => ⟨h1, hV.trans h2⟩)
  have k1 : ∀ j, w1.cell? ⟨w.heap.size, j, none⟩ = (dlA a1 c1 a2 c2 n p q)[j]? := fun j => cell_of_row _ _ _ _ _ _ hr1
  have k2 : ∀ j, w1.cell? ⟨w.heap.size + 1, j, none⟩ = (dlA b1 d1 b2 d2 n p q)[j]? := fun j => cell_of_row _ _ _ _ _ _ hr2
  have KK := Lib.hid (show ∀ V, Qt w1 V → V.cell? ⟨w.heap.size, 0, none⟩ = some (.slice a1 n c1) ∧ V.cell? ⟨w.heap.size, 1, none⟩ = some (.slice a2 n c2) ∧ V.cell? ⟨w.heap.size, 2, none⟩ = some (.int .u64 p) ∧ V.cell? ⟨w.heap.size, 3, none⟩ = some (.int .u64 q) ∧ V.cell? ⟨w.heap.size + 1, 0, none⟩ = some (.slice b1 n d1) ∧ V.cell? ⟨w.heap.size + 1, 1, none⟩ = some (.slice b2 n d2) ∧ V.cell? ⟨w.heap.size + 1, 2, none⟩ = some (.int .u64 p) ∧ V.cell? ⟨w.heap.size + 1, 3, none⟩ = some (.int .u64 q) from fun V hV =>
    ⟨(hV.cell _).trans (k1 0), (hV.cell _).trans (k1 1), (hV.cell _).trans (k1 2), (hV.cell _).trans (k1 3), (hV.cell _).trans (k2 0), (hV.cell _).trans (k2 1), (hV.cell _).trans (k2 2), (hV.cell _).trans (k2 3)⟩)
  have HW := Lib.hid hw1
  have e1 : ((p : Int) == (p : Int)) = true := by simp
  have e2 : ((q : Int) == (q : Int)) = true := by simp
  clear ha hb hc hd hr1 hr2 k1 k2 hw1
  unfold dlA at *
  go_enter Try.func20, Try.ntmps20
  go_upto_region 1 with fail
  rw [← HW.out]
  obtain ⟨x0, x1, x2, x3, x4, x5, x6, x7⟩ := KK.out w1 (Qt.refl _)
  go_wp2_with fail
  refine (H1.out w1 (Qt.refl _)).mono ?_
  rintro e w2 ⟨rfl, hq2⟩
  obtain ⟨x0, x1, x2, x3, x4, x5, x6, x7⟩ := KK.out w2 hq2
  have HQ2 := Lib.hid hq2
  clear hq2
  go_wp2_with fail
  refine (H2.out w2 HQ2.out).mono ?_
  rintro e w3 ⟨rfl, hq3⟩
  obtain ⟨x0, x1, x2, x3, x4, x5, x6, x7⟩ := KK.out w3 hq3
  have HQ3 := Lib.hid hq3
  clear hq3
  go_wp2
  go_ret
  exact ⟨rfl, HB.out.trans ((HQ3.out.below _).mono HB.out.size)⟩
end Go.Proofs.Ytbggibdldadpiaa
