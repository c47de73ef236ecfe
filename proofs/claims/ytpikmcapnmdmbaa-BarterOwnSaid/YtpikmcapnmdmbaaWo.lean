/-
  Layer 22: the document's example.
-/
import Derived.Test.YtpikmcapnmdmbaaWn
namespace Go.Proofs.Ytpikmcapnmdmbaa
open Go.RowKit Go.K Go.Maps
set_option linter.unusedVariables false
set_option linter.unusedSimpArgs false
/-- What Clear hands back, as lists. -/
def cyW (cs : List (List Nat)) (gs : List (Nat × Nat)) : List Wl := List.zipWith (fun (c : List Nat) (g : Nat × Nat) => ⟨some ⟨g.1, 0, none⟩, g.2, c.map fun (i : Nat) => (i : Int)⟩) cs gs
theorem cyW_v (cs : List (List Nat)) (gs : List (Nat × Nat)) : cyV cs gs = wV (cyW cs gs) := by
  unfold cyV cyW wV
  rw [List.map_zipWith]
  congr 1
  funext c g
  show _ = Wl.v _
  unfold Wl.v
  rw [List.length_map]
theorem cyW_l {cs : List (List Nat)} {gs : List (Nat × Nat)} (h : gs.length = cs.length) : (cyW cs gs).map Wl.l = cs.map (fun c => c.map fun (i : Nat) => (i : Int)) := by
  unfold cyW
  rw [List.map_zipWith]
  have : ∀ (cs : List (List Nat)) (gs : List (Nat × Nat)), gs.length = cs.length → List.zipWith (fun (c : List Nat) (g : Nat × Nat) => c.map fun (i : Nat) => (i : Int)) cs gs = cs.map (fun c => c.map fun (i : Nat) => (i : Int)) := by
    intro cs
    induction cs with
    | nil => intro gs h; simp
    | cons c cs ih =>
      intro gs h
      cases gs with
      | nil => simp at h
      | cons g gs => simp only [List.zipWith_cons_cons, List.map_cons]; rw [ih gs (by simpa using h)]
  exact this cs gs h
theorem cycs_ok {B : Nat} {W : World} {cs : List (List Nat)} {gs : List (Nat × Nat)} {a : Option Addr} {c : Nat} (ho : W.ownsRow B 22 1 (.slice a cs.length c) cs.length (cyV cs gs)) (hc : CycS B W cs gs) (hm : ∀ c ∈ cs, c.length ≤ 1000000 ∧ ∀ i ∈ c, i < 1000001) : WsOk W a (cyW cs gs) := by
  constructor
  · obtain ⟨ad, cap, hv, _, hs, _⟩ := owns_slice ho
    injection hv with h1
    rw [h1, ← cyW_v]; exact hs
  · intro x hx
    have hx' : x ∈ List.zipWith (fun (c : List Nat) (g : Nat × Nat) => (⟨some ⟨g.1, 0, none⟩, g.2, c.map fun (i : Nat) => (i : Int)⟩ : Wl)) cs gs := hx
    obtain ⟨t, ht, e⟩ := List.mem_iff_getElem.1 hx'
    have hlen := hc.len
    have ht1 : t < cs.length := by simp at ht; omega
    have ht2 : t < gs.length := by omega
    have hr := hc.row t ht1 ht2
    rw [List.getElem_zipWith] at e
    subst e
    have hle : cs[t].length ≤ gs[t].2 := by
      obtain ⟨_, _, hv, hle, _⟩ := owns_len hr
      injection hv with _ _ h3
      omega
    have h2 := hm _ (List.getElem_mem ht1)
    refine ⟨?_, ?_, ?_, (fun e => by cases e), fun y hy => ?_⟩
    · have := sl_of_owns hr
      rw [vN_eq] at this
      exact this
    · show (cs[t].map fun (i : Nat) => (i : Int)).length ≤ gs[t].2
      rw [List.length_map]; exact hle
    · show (cs[t].map fun (i : Nat) => (i : Int)).length ≤ 17592186043904
      rw [List.length_map]; omega
    · obtain ⟨i, hi, rfl⟩ := List.mem_map.1 hy
      have := h2.2 i hi
      exact WalkArith.wf_i64 (by omega)
def exI : List Int := [1, 2, 3, 4]
def exW : List (List Int) := [[2], [3], [1], [1]]
theorem ex_run : RunTo 4 (pts exI exW) [[0, 1, 2], [3]] (gadd (gadd (fun _ => false) [0, 1, 2]) [3]) := by
  have c1 : Cyc 4 (pts exI exW (fun _ => false)) (fun _ => false) [0, 1, 2] := by
    refine ⟨⟨by decide, by decide, by decide, fun i hi => rfl, fun k hk => ?_⟩, by decide, 0, by decide, fun j hj => absurd hj (Nat.not_lt_zero j), rfl, 0, by decide⟩
    match k, hk with
    | 0, _ => rfl
    | 1, _ => rfl
    | 2, _ => rfl
  have c2 : Cyc 4 (pts exI exW (gadd (fun _ => false) [0, 1, 2])) (gadd (fun _ => false) [0, 1, 2]) [3] := by
    refine ⟨⟨by decide, by decide, by decide, by decide, fun k hk => ?_⟩, by decide, 3, by decide, by decide, by decide, 0, by decide⟩
    match k, hk with
    | 0, _ => rfl
  exact (RunTo.nil.snoc c1).snoc c2
set_option maxRecDepth 100000 in
set_option maxHeartbeats 2000000 in
theorem awake_any (w : World) : Calls Try.prog 10 #[] w fun r w' => r = .returned (.bool true) ∧ Below w.heap.size w w' := by
  obtain ⟨W, hW⟩ : ∃ W : World, W = (((((w.alloc (.cells #[.int .i64 1, .int .i64 2, .int .i64 3, .int .i64 4] 3)).alloc (.cells #[.int .i64 2] 3)).alloc (.cells #[.int .i64 3] 3)).alloc (.cells #[.int .i64 1] 3)).alloc (.cells #[.int .i64 1] 3)).alloc
      (.cells #[.slice (some ⟨w.heap.size + 1, 0, none⟩) 1 1, .slice (some ⟨w.heap.size + 1 + 1, 0, none⟩) 1 1, .slice (some ⟨w.heap.size + 1 + 1 + 1, 0, none⟩) 1 1, .slice (some ⟨w.heap.size + 1 + 1 + 1 + 1, 0, none⟩) 1 1] 22) := ⟨_, rfl⟩
  have hbw : Below w.heap.size w W := by
    rw [hW]
    exact ((((((Below.refl w.heap.size w).alloc (Nat.le_refl _) _).alloc (by simp) _).alloc (by simp; omega) _).alloc (by simp; omega) _).alloc (by simp; omega) _).alloc (by simp; omega) _
  have r0 : W.heap[w.heap.size]? = some (.cells #[.int .i64 1, .int .i64 2, .int .i64 3, .int .i64 4] 3 (0, 0)) := by rw [hW]; exact alloc_old (alloc_old (alloc_old (alloc_old (alloc_old (alloc_at rfl)))))
  have r1 : W.heap[w.heap.size + 1]? = some (.cells #[.int .i64 2] 3 (0, 0)) := by rw [hW]; exact alloc_old (alloc_old (alloc_old (alloc_old (alloc_at (by simp)))))
  have r2 : W.heap[w.heap.size + 1 + 1]? = some (.cells #[.int .i64 3] 3 (0, 0)) := by rw [hW]; exact alloc_old (alloc_old (alloc_old (alloc_at (by simp))))
  have r3 : W.heap[w.heap.size + 1 + 1 + 1]? = some (.cells #[.int .i64 1] 3 (0, 0)) := by rw [hW]; exact alloc_old (alloc_old (alloc_at (by simp)))
  have r4 : W.heap[w.heap.size + 1 + 1 + 1 + 1]? = some (.cells #[.int .i64 1] 3 (0, 0)) := by rw [hW]; exact alloc_old (alloc_at (by simp))
  have r5 : W.heap[w.heap.size + 1 + 1 + 1 + 1 + 1]? = some (.cells #[.slice (some ⟨w.heap.size + 1, 0, none⟩) 1 1, .slice (some ⟨w.heap.size + 1 + 1, 0, none⟩) 1 1, .slice (some ⟨w.heap.size + 1 + 1 + 1, 0, none⟩) 1 1, .slice (some ⟨w.heap.size + 1 + 1 + 1 + 1, 0, none⟩) 1 1] 22 (0, 0)) := by rw [hW]; exact alloc_at (by simp)
  have hsl : ∀ (g : Nat) (vs : List Value) (t : TypeId), W.heap[g]? = some (.cells vs.toArray t (0, 0)) → Sl W (some ⟨g, 0, none⟩) vs := fun g vs t h _ => ⟨g, 0, rfl, fun i hi => by rw [cell_of_row _ _ _ _ _ _ h, Nat.zero_add]; simp⟩
  have hone : ∀ (g : Nat) (x : Int), W.heap[g]? = some (.cells #[.int .i64 x] 3 (0, 0)) → 0 ≤ x ∧ x ≤ 10 → WlOk W ⟨some ⟨g, 0, none⟩, 1, [x]⟩ := fun g x h hx => ⟨hsl g (vI [x]) 3 h, Nat.le_refl _, (show 1 ≤ 17592186043904 by omega), (fun e => by cases e), fun y hy => by
    rw [List.mem_singleton.1 hy]; exact WalkArith.wf_i64 (by omega)⟩
  have K12 := Lib.hid (clear_any (some ⟨w.heap.size, 0, none⟩) 4 exI (some ⟨w.heap.size + 1 + 1 + 1 + 1 + 1, 0, none⟩) 4 [⟨some ⟨w.heap.size + 1, 0, none⟩, 1, [2]⟩, ⟨some ⟨w.heap.size + 1 + 1, 0, none⟩, 1, [3]⟩, ⟨some ⟨w.heap.size + 1 + 1 + 1, 0, none⟩, 1, [1]⟩, ⟨some ⟨w.heap.size + 1 + 1 + 1 + 1, 0, none⟩, 1, [1]⟩] W (by decide) (hsl _ (vI exI) 3 r0)
    (fun y hy => by
      simp only [exI, List.mem_cons, List.not_mem_nil, or_false] at hy
      rcases hy with rfl | rfl | rfl | rfl <;> exact WalkArith.wf_i64 (by omega))
    ⟨hsl _ (wV [⟨some ⟨w.heap.size + 1, 0, none⟩, 1, [2]⟩, ⟨some ⟨w.heap.size + 1 + 1, 0, none⟩, 1, [3]⟩, ⟨some ⟨w.heap.size + 1 + 1 + 1, 0, none⟩, 1, [1]⟩, ⟨some ⟨w.heap.size + 1 + 1 + 1 + 1, 0, none⟩, 1, [1]⟩]) 22 r5, fun x hx => by
      simp only [List.mem_cons, List.not_mem_nil, or_false] at hx
      rcases hx with rfl | rfl | rfl | rfl
      · exact hone _ 2 r1 (by omega)
      · exact hone _ 3 r2 (by omega)
      · exact hone _ 1 r3 (by omega)
      · exact hone _ 1 r4 (by omega)⟩)
  have HBW := Lib.hid hbw
  clear hbw r0 r1 r2 r3 r4 r5 hsl hone
  unfold ClearAns at K12
  simp only [exI, List.length_cons, List.length_nil, Nat.zero_add, Nat.reduceAdd, List.map_cons, List.map_nil] at K12
  go_enter Try.func10, Try.ntmps10
  go_wp2_with fail
  rw [← hW]
  have HW := Lib.hid hW
  clear hW
  refine K12.out.mono ?_
  rintro r w1 ⟨hc, hb1⟩
  have HB1 := Lib.hid (HBW.out.trans (hb1.mono HBW.out.size))
  rcases hc with ⟨_, hno⟩ | ⟨_, cs, gs, D, g, G, vc, B, rfl, hrun, hall, hgot, hrow, hg, hgB, hcy, hcr⟩
  · exact absurd (show MeetP [1, 2, 3, 4] 4 from ⟨rfl, by decide, by decide⟩) hno
  have e := run_unique hrun ex_run hall (by decide)
  subst e
  have g0 : G 0 = 2 := by simpa using hgot [0, 1, 2] (by simp) 0 (by decide)
  have g1 : G 1 = 3 := by simpa using hgot [0, 1, 2] (by simp) 1 (by decide)
  have g2 : G 2 = 1 := by simpa using hgot [0, 1, 2] (by simp) 2 (by decide)
  have g3 : G 3 = 4 := by simpa using hgot [3] (by simp) 0 (by decide)
  have e0 : tabI 4 G = (vI [2, 3, 1, 4]).toArray := by
    show (_ : List Value).toArray = _
    simp [List.range_succ, vI, g0, g1, g2, g3]
  have HSG := Lib.hid (show Sl w1 (some ⟨g, 0, none⟩) (vI [2, 3, 1, 4]) from fun _ => ⟨g, 0, rfl, fun i hi => by
    have hrow' : w1.heap[g]? = some (.cells (tabI 4 G) 3 (0, 0)) := hrow
    rw [cell_of_row _ _ _ _ _ _ hrow', e0, Nat.zero_add]; simp⟩)
  obtain ⟨ad, cap, rfl, _, _, _, _⟩ := owns_len hcy
  have HCY := Lib.hid (cycs_ok hcy hcr (by decide))
  have HCL := Lib.hid (cyW_l hcr.len)
  have HCN := Lib.hid (show (cyW [[0, 1, 2], [3]] gs).length = 2 by
    have := congrArg List.length (cyW_l hcr.len)
    simpa using this)
  clear hrun hall hgot hrow hg hgB hcy hcr g0 g1 g2 g3 e0 K12 hb1
  generalize cyW [[0, 1, 2], [3]] gs = cw at HCY HCL HCN
  simp only [List.length_cons, List.length_nil, Nat.zero_add, Nat.reduceAdd]
  have K21 := Lib.hid (same_true (some ⟨g, 0, none⟩) (some ⟨w1.heap.size, 0, none⟩) 4 4 [2, 3, 1, 4] (w1.alloc (.cells #[.int .i64 2, .int .i64 3, .int .i64 1, .int .i64 4] 3)) (by decide) (HSG.out.kept ((Below.refl _ _).alloc (Nat.le_refl _) _)) (sl_new w1 (vI [2, 3, 1, 4]) 3 (0, 0)))
  go_wp2_with fail
  refine K21.out.mono ?_
  rintro r w2 ⟨rfl, m, hw2⟩
  have hA2 : Below w1.heap.size w1 w2 := by rw [hw2]; exact ((Below.refl w1.heap.size w1).alloc (Nat.le_refl _) _).trans ((Qt.drewN _ m).below _)
  have HCY2 := Lib.hid (HCY.out.kept hA2)
  have HB2 := Lib.hid (HB1.out.trans (hA2.mono HB1.out.size))
  clear hw2 hA2 K21 HSG
  obtain ⟨W3, hW3⟩ : ∃ W : World, W = ((w2.alloc (.cells #[.int .i64 0, .int .i64 1, .int .i64 2] 3)).alloc (.cells #[.int .i64 3] 3)).alloc (.cells #[.slice (some ⟨w2.heap.size, 0, none⟩) 3 3, .slice (some ⟨w2.heap.size + 1, 0, none⟩) 1 1] 22) := ⟨_, rfl⟩
  have hb3 : Below w2.heap.size w2 W3 := by rw [hW3]; exact (((Below.refl _ _).alloc (Nat.le_refl _) _).alloc (by simp) _).alloc (by simp; omega) _
  have q0 : W3.heap[w2.heap.size]? = some (.cells #[.int .i64 0, .int .i64 1, .int .i64 2] 3 (0, 0)) := by rw [hW3]; exact alloc_old (alloc_old (alloc_at rfl))
  have q1 : W3.heap[w2.heap.size + 1]? = some (.cells #[.int .i64 3] 3 (0, 0)) := by rw [hW3]; exact alloc_old (alloc_at (by simp))
  have q2 : W3.heap[w2.heap.size + 1 + 1]? = some (.cells #[.slice (some ⟨w2.heap.size, 0, none⟩) 3 3, .slice (some ⟨w2.heap.size + 1, 0, none⟩) 1 1] 22 (0, 0)) := by rw [hW3]; exact alloc_at (by simp)
  have hsl : ∀ (g : Nat) (vs : List Value) (t : TypeId), W3.heap[g]? = some (.cells vs.toArray t (0, 0)) → Sl W3 (some ⟨g, 0, none⟩) vs := fun g vs t h _ => ⟨g, 0, rfl, fun i hi => by rw [cell_of_row _ _ _ _ _ _ h, Nat.zero_add]; simp⟩
  have K22 := Lib.hid (sameAll_true ad (some ⟨w2.heap.size + 1 + 1, 0, none⟩) cap 2 cw [⟨some ⟨w2.heap.size, 0, none⟩, 3, [0, 1, 2]⟩, ⟨some ⟨w2.heap.size + 1, 0, none⟩, 1, [3]⟩] W3 (by have := HCN.out; omega) (HCY2.out.kept hb3)
    ⟨hsl _ (wV [⟨some ⟨w2.heap.size, 0, none⟩, 3, [0, 1, 2]⟩, ⟨some ⟨w2.heap.size + 1, 0, none⟩, 1, [3]⟩]) 22 q2, fun x hx => by
      simp only [List.mem_cons, List.not_mem_nil, or_false] at hx
      rcases hx with rfl | rfl
      · exact ⟨hsl _ (vI [0, 1, 2]) 3 q0, Nat.le_refl _, (show 3 ≤ 17592186043904 by omega), (fun e => by cases e), fun y hy => by
          simp only [List.mem_cons, List.not_mem_nil, or_false] at hy
          rcases hy with rfl | rfl | rfl <;> exact WalkArith.wf_i64 (by omega)⟩
      · exact ⟨hsl _ (vI [3]) 3 q1, Nat.le_refl _, (show 1 ≤ 17592186043904 by omega), (fun e => by cases e), fun y hy => by
          rw [List.mem_singleton.1 hy]; exact WalkArith.wf_i64 (by omega)⟩⟩ (by rw [HCL.out]; rfl))
  rw [HCN.out] at K22
  have HB3 := Lib.hid (HB2.out.trans (hb3.mono HB2.out.size))
  have HW3 := Lib.hid hW3
  clear hb3 q0 q1 q2 hsl
  go_wp2_with fail
  rw [← hW3]
  clear hW3
  refine K22.out.mono ?_
  rintro r w4 ⟨rfl, m, hw4⟩
  have HB4 := Lib.hid (show Below w.heap.size w w4 by rw [hw4]; exact HB3.out.trans ((Qt.drewN _ m).below _))
  clear hw4 K22
  go_wp2
  go_ret
  exact ⟨rfl, HB4.out⟩
end Go.Proofs.Ytpikmcapnmdmbaa
