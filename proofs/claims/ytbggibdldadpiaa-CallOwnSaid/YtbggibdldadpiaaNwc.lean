/-
  Layer 1: the document's numbers of any length: their sums.
-/
import Derived.Test.YtbggibdldadpiaaNwb
import Derived.Deep.RegionWith
namespace Go.Proofs.Ytbggibdldadpiaa.n01
open Go.RowKit Go.K Go.Words
set_option linter.unusedVariables false
set_option linter.unusedSimpArgs false

theorem IntAt.mk' {W : World} {g : Nat} {b : Bool} {ad : Option Addr} {cap : Nat} {o : List (BitVec 32)} {z : Int} (hrow : W.heap[g]? = some (.cells #[.bool (b && decide (0 < o.length)), .slice ad o.length cap] 73)) (hs : Sl W ad (vW o)) (hn : norm o) (hc : o.length ≤ cap)
    (hz : z = if b = true then -(val o : Int) else (val o : Int)) : IntAt W g z := by
  refine ⟨_, ad, cap, o, hrow, hs, hn, hc, ?_, ?_⟩
  · rw [hz]
    cases b
    · rfl
    · by_cases h : 0 < o.length
      · simp [h]
      · have : o = [] := List.eq_nil_of_length_eq_zero (by omega)
        subst this; simp [val]
  · intro h
    simp at h
    exact List.length_pos_iff.1 h.2
/-- A number in memory whose words lie in a block of a kind. -/
def IntP (P : Nat → Prop) (W : World) (g : Nat) (z : Int) : Prop := ∃ (bl : Bool) (ad : Option Addr) (cap : Nat) (l : List (BitVec 32)), W.heap[g]? = some (.cells #[.bool bl, .slice ad l.length cap] 73) ∧ Sl W ad (vW l) ∧ norm l ∧ l.length ≤ cap ∧ z = (if bl = true then -(val l : Int) else (val l : Int)) ∧ (bl = true → l ≠ []) ∧ ∀ x, ad = some x → l ≠ [] → P x.block
theorem IntP.at' {P : Nat → Prop} {W : World} {g : Nat} {z : Int} (h : IntP P W g z) : IntAt W g z := by
  obtain ⟨b, a, c, l, h1, h2, h3, h4, h5, h6, _⟩ := h
  exact ⟨b, a, c, l, h1, h2, h3, h4, h5, h6⟩
theorem IntP.mono {P Q : Nat → Prop} {W : World} {g : Nat} {z : Int} (h : IntP P W g z) (hPQ : ∀ b, b < W.heap.size → P b → Q b) : IntP Q W g z := by
  obtain ⟨b, a, c, l, h1, h2, h3, h4, h5, h6, h7⟩ := h
  exact ⟨b, a, c, l, h1, h2, h3, h4, h5, h6, fun x hx hl => hPQ _ (h2.lt x hx (fun e => hl (by cases l with | nil => rfl | cons a t => simp [vW] at e))) (h7 x hx hl)⟩
theorem IntAt.p {W : World} {g : Nat} {z : Int} (h : IntAt W g z) : IntP (fun b => b < W.heap.size ∧ ∀ r, IsInt W r → b ≠ r) W g z := by
  obtain ⟨b, a, c, l, h1, h2, h3, h4, h5, h6⟩ := h
  refine ⟨b, a, c, l, h1, h2, h3, h4, h5, h6, fun x hx hl => ?_⟩
  have hne : vW l ≠ [] := fun e => hl (by cases l with | nil => rfl | cons a t => simp [vW] at e)
  refine ⟨h2.lt x hx hne, fun r hr => ?_⟩
  obtain ⟨b2, o2, he, hc⟩ := h2 hne
  rw [he] at hx
  cases hx
  exact words_away hr hl hc
/-- A number in memory, opened. -/
structure Op1 (w : World) (g : Nat) (b : Bool) (ad : Option Addr) (cap : Nat) (l : List (BitVec 32)) : Prop where
  row : w.heap[g]? = some (.cells #[.bool b, .slice ad l.length cap] 73)
  sl : Sl w ad (vW l)
  nm : norm l
  le : l.length ≤ cap
  sh : l.length ≤ 900
theorem Op1.c0 {w : World} {g : Nat} {b : Bool} {ad : Option Addr} {cap : Nat} {l : List (BitVec 32)} (h : Op1 w g b ad cap l) : w.cell? ⟨g, 0, none⟩ = some (.bool b) := by rw [cell_of_row _ _ _ _ _ _ h.row]; rfl
theorem Op1.c1 {w : World} {g : Nat} {b : Bool} {ad : Option Addr} {cap : Nat} {l : List (BitVec 32)} (h : Op1 w g b ad cap l) : w.cell? ⟨g, 1, none⟩ = some (.slice ad l.length cap) := by rw [cell_of_row _ _ _ _ _ _ h.row]; rfl
def sg (b : Bool) (n : Nat) : Int := if b = true then -(n : Int) else n
theorem IntAt.open {w : World} {g : Nat} {z : Int} (h : IntAt w g z) (hz : z.natAbs < pw 900) : ∃ b ad cap l, Op1 w g b ad cap l ∧ z = sg b (val l) ∧ z.natAbs = val l := by
  obtain ⟨b, a, c, l, row, sl, n, le, e, q⟩ := h
  have hv : z.natAbs = val l := by rw [e]; split <;> omega
  exact ⟨b, a, c, l, ⟨row, sl, n, le, len_le l n 900 (by rw [← hv]; exact hz)⟩, e, hv⟩
theorem sl_heap {w W : World} {a : Option Addr} {vs : List Value} (h : Sl w a vs) (hh : W.heap = w.heap) : Sl W a vs := by
  intro hne
  obtain ⟨b, off, e, hc⟩ := h hne
  exact ⟨b, off, e, fun i hi => by rw [← hc i hi]; unfold World.cell?; rw [hh]⟩
theorem isInt_heap {w W : World} {g : Nat} (h : IsInt w g) (hh : W.heap = w.heap) : IsInt W g := by
  obtain ⟨q1, q2, q3, q4, q5⟩ := h; exact ⟨q1, q2, q3, q4, by rw [hh]; exact q5⟩
theorem intP_mk {P : Nat → Prop} {W : World} {g n cap : Nat} {z : Int} {bl : Bool} {ad : Option Addr} {t : TypeId} (h : IntAt W g z) (hrow : W.heap[g]? = some (.cells #[.bool bl, .slice ad n cap] t)) (hP : ∀ x, ad = some x → n = n → P x.block) : IntP P W g z := by
  obtain ⟨b, a, c, l, h1, h2, h3, h4, h5, h6⟩ := h
  refine ⟨b, a, c, l, h1, h2, h3, h4, h5, h6, fun x hx _ => ?_⟩
  rw [hrow] at h1
  injection h1 with e1
  injection e1 with e2
  simp at e2
  exact hP x (e2.2.1.trans hx) rfl
theorem add_fin {w W0 w1 w2 : World} {gn : Nat} {b : Bool} {ad : Option Addr} {cap : Nat} {o : List (BitVec 32)} {z : Int} (hb : Below W0.heap.size W0 w1) (hgr : w1.grownBy w2 (some gn)) (hrow : w2.heap[gn]? = some (.cells #[.bool (b && decide (0 < o.length)), .slice ad o.length cap] 73))
    (hso : SlN W0.heap.size w1 ad o) (hnm : norm o) (hcap : o.length ≤ cap) (hI : IsInt w gn) (hz : z = sg b (val o)) (hq : Qt w W0) : w.grownBy w2 (some gn) ∧ IntP (w.heap.size ≤ ·) w2 gn z := by
  have hI0 : IsInt w1 gn := (isInt_heap hI hq.heap).kept hb
  exact ⟨grown_trans (grown_trans (grown_below (hq.below _) _) (grown_below hb _)) hgr, intP_mk (IntAt.mk' hrow (sl_awayInt hI0 hgr hso.sl) hnm hcap hz) hrow (fun x hx _ => by have h := hso.ge x hx; rw [hq.heap] at h; exact h)⟩
set_option maxRecDepth 100000 in
set_option maxHeartbeats 1000000 in
theorem add_same (gn gx gy : Nat) (b1 : Bool) (a1 a2 : Option Addr) (c1 c2 : Nat) (l1 l2 : List (BitVec 32)) (w : World) (hn : IsInt w gn) (hx : Op1 w gx b1 a1 c1 l1) (hy : Op1 w gy b1 a2 c2 l2) :
    Calls Try.prog 35 #[.pointer (some ⟨gn, 0, none⟩), .pointer (some ⟨gx, 0, none⟩), .pointer (some ⟨gy, 0, none⟩)] w fun e w' => e = .returned (.pointer (some ⟨gn, 0, none⟩)) ∧ w.grownBy w' (some gn) ∧ IntP (w.heap.size ≤ ·) w' gn (sg b1 (val l1 + val l2)) := by
  have x0 := hx.c0
  have x1 := hx.c1
  have y0 := hy.c0
  have y1 := hy.c1
  have z1 := hx.sh
  have z2 := hy.sh
  have S1 := Lib.hid (show ∀ W : World, W.heap = w.heap → Sl W a1 (vW l1) from fun W h => sl_heap hx.sl h)
  have S2 := Lib.hid (show ∀ W : World, W.heap = w.heap → Sl W a2 (vW l2) from fun W h => sl_heap hy.sl h)
  have HI := Lib.hid (show ∀ W W1 : World, Below W.heap.size W W1 → W.heap = w.heap → IsInt W1 gn from fun W W1 hb h => (isInt_heap hn h).kept hb)
  have t0 : (b1 == b1) = true := by simp
  have HN := Lib.hid hn
  clear hn hx hy
  go_enter Try.func35, Try.ntmps35
  go_wp2
  go_quiet (fail)
  go_wp2
  go_region_with
    (first
      | (go_at_call 57; refine (plus_any a1 a2 c1 c2 l1 l2 _ ?_ ?_ ?_ ?_).mono ?_; exact S1.out _ rfl; exact S2.out _ rfl; omega; omega; rintro e w1 ⟨ad, cap, o, rfl, hcap, hnm, hv, hso, hb⟩; have x05 := below_cell hb (a := ⟨gx, 0, none⟩) (v := .bool b1) (by go_keep))
      | (go_at_call 56; refine (signed_any gn b1 ad o.length cap _ ?_).mono ?_; exact HI.out _ _ hb rfl; rintro e w2 ⟨rfl, hgr, hrow⟩))
  all_goals
    have G1 := Lib.hid hb
    have G2 := Lib.hid hgr
    have G3 := Lib.hid hrow
    have G4 := Lib.hid hso
    have G5 := Lib.hid hnm
    have G6 := Lib.hid hv
    clear hb hgr hrow hso hnm hv
    go_wp2
    go_ret
    exact ⟨rfl, add_fin G1.out G2.out G3.out G4.out G5.out hcap HN.out (by rw [G6.out]) ⟨_, rfl⟩⟩
set_option maxRecDepth 100000 in
set_option maxHeartbeats 1000000 in
theorem add_diff (gn gx gy : Nat) (b1 b2 : Bool) (a1 a2 : Option Addr) (c1 c2 : Nat) (l1 l2 : List (BitVec 32)) (w : World) (hn : IsInt w gn) (hx : Op1 w gx b1 a1 c1 l1) (hy : Op1 w gy b2 a2 c2 l2) (hb12 : (b1 == b2) = false) (hle : val l2 ≤ val l1) :
    Calls Try.prog 35 #[.pointer (some ⟨gn, 0, none⟩), .pointer (some ⟨gx, 0, none⟩), .pointer (some ⟨gy, 0, none⟩)] w fun e w' => e = .returned (.pointer (some ⟨gn, 0, none⟩)) ∧ w.grownBy w' (some gn) ∧ IntP (w.heap.size ≤ ·) w' gn (sg b1 (val l1 - val l2)) := by
  have x0 := hx.c0
  have x1 := hx.c1
  have y0 := hy.c0
  have y1 := hy.c1
  have z1 := hx.sh
  have z2 := hy.sh
  have S1 := Lib.hid (show ∀ W : World, W.heap = w.heap → Sl W a1 (vW l1) from fun W h => sl_heap hx.sl h)
  have S2 := Lib.hid (show ∀ W : World, W.heap = w.heap → Sl W a2 (vW l2) from fun W h => sl_heap hy.sl h)
  have HI := Lib.hid (show ∀ W W1 : World, Below W.heap.size W W1 → W.heap = w.heap → IsInt W1 gn from fun W W1 hb h => (isInt_heap hn h).kept hb)
  have HL := Lib.hid (len_mono l2 l1 hy.nm hle)
  have HLE := Lib.hid hle
  have N1 := Lib.hid hx.nm
  have N2 := Lib.hid hy.nm
  have t1 : decide (0 ≤ cmpZ (val l1) (val l2)) = true := decide_eq_true (by unfold cmpZ; rw [if_neg (by omega)]; split <;> decide)
  have HN := Lib.hid hn
  clear hn hx hy hle
  go_enter Try.func35, Try.ntmps35
  go_wp2
  go_quiet (fail)
  go_wp2
  refine wp_region_inv 10 (fun W => Qt w W) (by kernel_rfl) (by kernel_rfl) (fun n => ⟨n, rfl⟩) ?_
  simp only [List.take_succ_cons, List.take_zero]
  iterate 10
    apply wpInv_cons
    · rfl
    · intro Wx hw
      have k1 := (hw.cell ⟨gx, 1, none⟩).trans x1
      have k2 := (hw.cell ⟨gy, 1, none⟩).trans y1
      go_simp
      first
        | exact ⟨hw, rfl⟩
        | (show Calls _ _ _ _ _; with_reducible exact (against_any a1 a2 c1 c2 l1 l2 _ (S1.out _ hw.heap) (S2.out _ hw.heap) (by omega) (by omega) N1.out N2.out).mono (fun e w' ⟨he, hq⟩ => ⟨he, hw.trans hq⟩))
    simp only [Act.put, List.setIfInBounds_toArray, List.set_cons_zero, List.set_cons_succ]
  refine wpInv_nil fun W hw => ?_
  simp only [List.drop_succ_cons, List.drop_zero]
  have k0 := (hw.cell ⟨gx, 0, none⟩).trans x0
  have k1 := (hw.cell ⟨gx, 1, none⟩).trans x1
  have k2 := (hw.cell ⟨gy, 1, none⟩).trans y1
  have S1' := Lib.hid (show ∀ V : World, V.heap = W.heap → Sl V a1 (vW l1) from fun V h => S1.out V (h.trans hw.heap))
  have S2' := Lib.hid (show ∀ V : World, V.heap = W.heap → Sl V a2 (vW l2) from fun V h => S2.out V (h.trans hw.heap))
  have HI' := Lib.hid (show ∀ V W1 : World, Below V.heap.size V W1 → V.heap = W.heap → IsInt W1 gn from fun V W1 hb h => HI.out V W1 hb (h.trans hw.heap))
  have HQ := Lib.hid hw
  clear x0 x1 y0 y1 S1 S2 HI hw
  go_wp2
  go_region_with
    (first
      | (go_at_call 58; refine (minus_any a1 a2 c1 c2 l1 l2 _ ?_ ?_ ?_ ?_ ?_ ?_).mono ?_; exact S1'.out _ rfl; exact S2'.out _ rfl; omega; omega; exact HL.out; exact HLE.out; rintro e w1 ⟨ad, cap, o, rfl, hcap, hnm, hv, hso, hb⟩; have x05 := below_cell hb (a := ⟨gx, 0, none⟩) (v := .bool b1) (by go_keep))
      | (go_at_call 56; refine (signed_any gn b1 ad o.length cap _ ?_).mono ?_; exact HI'.out _ _ hb rfl; rintro e w2 ⟨rfl, hgr, hrow⟩))
  all_goals
    have G1 := Lib.hid hb
    have G2 := Lib.hid hgr
    have G3 := Lib.hid hrow
    have G4 := Lib.hid hso
    have G5 := Lib.hid hnm
    have G6 := Lib.hid hv
    clear hb hgr hrow hso hnm hv
    go_wp2
    go_ret
    exact ⟨rfl, add_fin G1.out G2.out G3.out G4.out G5.out hcap HN.out (by rw [G6.out]) (HQ.out.trans ⟨_, rfl⟩)⟩
end Go.Proofs.Ytbggibdldadpiaa.n01

