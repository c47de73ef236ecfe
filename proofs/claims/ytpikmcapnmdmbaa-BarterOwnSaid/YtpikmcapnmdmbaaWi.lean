/-
  Layer 22: lists of lists that are lent.
-/
import Derived.Test.YtpikmcapnmdmbaaWh
namespace Go.Proofs.Ytpikmcapnmdmbaa
open Go.RowKit Go.K Go.Maps
set_option linter.unusedVariables false
set_option linter.unusedSimpArgs false
theorem wV_append (l m : List Wl) : wV (l ++ m) = wV l ++ wV m := by simp [wV]
theorem oneCell_wV (l : List Wl) : ∀ u ∈ wV l, u.oneCell' = true := by
  intro u hu
  obtain ⟨c, _, rfl⟩ := List.mem_map.1 hu
  rfl
def IncW (ms : List Wl) : Prop := ms.Pairwise fun x y => ∀ g h, x.a = some ⟨g, 0, none⟩ → y.a = some ⟨h, 0, none⟩ → g < h
structure LentW (B : Nat) (W : World) (a : Option Addr) (c : Nat) (ms : List Wl) : Prop where
  row : ∃ gm, W.ownsRow B 22 1 (.slice a (ms.length + 1) c) (ms.length + 1) (wV ms ++ [.slice (some ⟨gm, 0, none⟩) 1 1]) ∧ W.heap[gm]? = some (.cells #[.int .i64 (-778)] 3 (0, 0))
  each : ∀ x ∈ ms, LentL B W x
  inc : IncW ms
theorem LentW.at' {B : Nat} {W : World} {a : Option Addr} {c : Nat} {ms : List Wl} (h : LentW B W a c ms) : ∃ g, a = some ⟨g, 0, none⟩ ∧ B ≤ g ∧ g < W.heap.size ∧ ms.length + 1 ≤ c := by
  obtain ⟨gm, hr, _⟩ := h.row
  obtain ⟨ad, cap, hv, hle, _, hs, _⟩ := owns_len hr
  injection hv with h1 h2 h3
  obtain ⟨g, hg⟩ := hs (by omega)
  rw [h1, hg]
  have := hr.lt g (by rw [h1, hg]; rfl)
  exact ⟨g, rfl, this.1, this.2, by omega⟩
theorem LentW.ok {B : Nat} {W : World} {a : Option Addr} {c : Nat} {ms : List Wl} (h : LentW B W a c ms) : WsOk W a ms := by
  obtain ⟨g, hg, _⟩ := h.at'
  obtain ⟨gm, hr, _⟩ := h.row
  rw [hg] at hr ⊢
  exact ⟨sl_prefix (sl_of_owns hr), fun x hx => (h.each x hx).ok⟩
theorem LentW.below {B : Nat} {W W' : World} {a : Option Addr} {c : Nat} {ms : List Wl} (h : LentW B W a c ms) (hb : Below W.heap.size W W') : LentW B W' a c ms := by
  obtain ⟨gm, hr, hm⟩ := h.row
  exact ⟨⟨gm, owns_below (B := 0) hr hb, row_kept hm hb⟩, fun x hx => (h.each x hx).below hb, h.inc⟩
set_option maxRecDepth 100000 in
set_option maxHeartbeats 2000000 in
theorem lentAll_any (a : Option Addr) (c : Nat) (ws : List Wl) (w : World) (hl : ws.length ≤ 1000000) (hws : WsOk w a ws) (hm : ∀ x ∈ ws, x.l.length ≤ 1000000) :
    Calls Try.prog 14 #[.slice a ws.length c] w fun r w' => ∃ (a' : Option Addr) (c' : Nat) (ms : List Wl), r = .returned (.slice a' ws.length c') ∧ ms.map Wl.l = ws.map Wl.l ∧ LentW w.heap.size w' a' c' ms ∧ Below w.heap.size w w' := by
  have HWS := Lib.hid hws
  have HMX := Lib.hid hm
  clear hws hm
  go_enter Try.func14, Try.ntmps14
  go_wp2
  go_loopw [3, 4] (fun v i wr => ∃ (k : Nat) (v' : Value) (ms : List Wl), v' = v ∧ k ≤ ws.length ∧ i = .int .i64 k ∧ ms.map Wl.l = (ws.take k).map Wl.l ∧ ms.length = k ∧ wr.ownsRow w.heap.size 22 1 v' k (wV ms) ∧ (∀ x ∈ ms, LentL w.heap.size wr x) ∧ IncW ms ∧ Below w.heap.size w wr) (fun _ i _ => ws.length - (intOf i).toNat)
  case atStart => exact ⟨0, _, [], rfl, by omega, rfl, rfl, rfl, World.ownsRow_nil _ _ _ _, (fun x hx => by cases hx), List.Pairwise.nil, Below.refl _ _⟩
  case round =>
    obtain ⟨k, v, ms, hv, hk, rfl, hml, hmk, ho, he, hi, hb⟩ := hrel
    subst hv
    have HML := Lib.hid hml
    have HMK := Lib.hid hmk
    have HO := Lib.hid ho
    have HE := Lib.hid he
    have HI := Lib.hid hi
    have HB := Lib.hid hb
    clear hml hmk ho he hi hb
    by_cases hlt : k < ws.length
    · have t0 : decide ((k : Int) < (ws.length : Int)) = true := by simp; omega
      have i0 : (k : Int) < (ws.length : Int) := by omega
      obtain ⟨b, o, rfl, z0⟩ := (HWS.out.kept HB.out).at' k hlt
      have HX := Lib.hid ((HWS.out.kept HB.out).each _ (List.getElem_mem hlt))
      have HXM := Lib.hid (HMX.out _ (List.getElem_mem hlt))
      have HT := Lib.hid (show (ws.take (k + 1)).map Wl.l = (ws.take k).map Wl.l ++ [ws[k].l] by
        rw [List.take_succ_eq_append_getElem hlt, List.map_append]; rfl)
      generalize ws[k] = x at z0 HX HXM HT
      obtain ⟨xa, xc, xl⟩ := x
      simp only at z0 HXM HT
      have K13 := Lib.hid (lent_any xa xc xl wr HXM.out HX.out.sl HX.out.nil HX.out.wf)
      clear HX
      go_wp2_with fail
      refine K13.out.mono ?_
      rintro r0 w2 ⟨y, rfl, hyl, hy, hb2⟩
      obtain ⟨ya, yc, yl⟩ := y
      simp only at hyl
      subst hyl
      have HY := Lib.hid hy
      have HB2 := Lib.hid hb2
      have HO2 := Lib.hid (owns_below (B := 0) HO.out hb2)
      obtain ⟨g, rfl, hg1, hg2', hg3⟩ := hy.at'
      have h63 : k + 1 ≤ maxLen := by unfold maxLen; omega
      have hby : (k + 1) * 24 ≤ 140737488355328 := by omega
      have HBA := Lib.hid (HB.out.trans (hb2.mono HB.out.size))
      have HBB := Lib.hid (HBA.out.alloc HBA.out.size (.cells #[.slice (some ⟨g, 0, none⟩) yl.length yc] 22))
      have HGG := Lib.hid (And.intro hg1 hg2')
      clear hy hb2 K13 hg1 hg2' hg3
      unfold Wl.v
      simp only
      go_wp2_with (at_builtin; refine wpList_append_sl rfl _ _ 23 rfl w.heap.size 22 (.slice none 0 0) 1 24 Try.underlying23 infoS (by rfl) (by decide) v k (wV ms) (by rfl) (HO2.out.alloc _) (some ⟨w2.heap.size, 0, none⟩) 1 1 (wV [⟨some ⟨g, 0, none⟩, yc, yl⟩]) (by rfl) (fun h => by cases h) (by rfl) (sl_new _ _ _ _) (oneCell_wV _) h63 hby HBB.out.size ?a8)
      intro v3 w3 ho3 hg3
      have HO3 := Lib.hid ho3
      have HB3 := Lib.hid (HBB.out.grown hg3 HBB.out.size (fun q hq => (HO2.out.lt q hq).1))
      have HE3 := Lib.hid (show ∀ x ∈ ms ++ [⟨some ⟨g, 0, none⟩, yc, yl⟩], LentL w.heap.size w3 x from fun x hx => by
        rcases List.mem_append.1 hx with e | e
        · exact (((HE.out x e).below HB2.out).below ((Below.refl _ _).alloc (Nat.le_refl _) _)).grown (HO2.out.alloc _) hg3 (by decide)
        · rw [List.mem_singleton.1 e]
          exact (((HY.out.base HB.out.size)).below ((Below.refl _ _).alloc (Nat.le_refl _) _)).grown (HO2.out.alloc _) hg3 (by decide))
      have HI3 := Lib.hid (show IncW (ms ++ [⟨some ⟨g, 0, none⟩, yc, yl⟩]) by
        unfold IncW
        rw [List.pairwise_append]
        refine ⟨HI.out, List.pairwise_singleton _ _, fun x hx y hy g1 h1 e1 e2 => ?_⟩
        rw [List.mem_singleton.1 hy] at e2
        obtain ⟨g2, e3, _, e4, _⟩ := (HE.out x hx).at'
        rw [e1] at e3
        injection e3 with e3
        injection e3 with e3
        injection e2 with e2
        injection e2 with e2
        have := HGG.out.1
        omega)
      clear ho3 hg3
      go_wp2
      go_roundw
      case rel => exact ⟨k + 1, _, ms ++ [⟨some ⟨g, 0, none⟩, yc, yl⟩], rfl, by omega, by go_num, by rw [List.map_append, HML.out, HT.out]; rfl, by rw [List.length_append, HMK.out]; rfl, by rw [wV_append]; exact HO3.out, HE3.out, HI3.out, HB3.out⟩
      case measure => simp [intOf]; omega
    · have t0 : decide ((k : Int) < (ws.length : Int)) = false := by simp; omega
      have hke : k = ws.length := by omega
      have HO := Lib.hid (show wr.ownsRow w.heap.size 22 1 v ws.length (wV ms) by rw [← hke]; exact HO.out)
      have HML := Lib.hid (show ms.map Wl.l = ws.map Wl.l by rw [HML.out, hke, List.take_length])
      have HMK := Lib.hid (show ms.length = ws.length by rw [HMK.out, hke])
      clear hke
      have h63 : ws.length + 1 ≤ maxLen := by unfold maxLen; omega
      have hby : (ws.length + 1) * 24 ≤ 140737488355328 := by omega
      have HBA := Lib.hid (HB.out.alloc HB.out.size (.cells #[.int .i64 (-778)] 3))
      have HBB := Lib.hid (HBA.out.alloc HBA.out.size (.cells #[.slice (some ⟨wr.heap.size, 0, none⟩) 1 1] 22))
      have HSN := Lib.hid (show Sl ((wr.alloc (.cells #[.int .i64 (-778)] 3)).alloc (.cells #[.slice (some ⟨wr.heap.size, 0, none⟩) 1 1] 22)) (some ⟨wr.heap.size + 1, 0, none⟩) [.slice (some ⟨wr.heap.size, 0, none⟩) 1 1] from by
        have := sl_new (wr.alloc (.cells #[.int .i64 (-778)] 3)) [.slice (some ⟨wr.heap.size, 0, none⟩) 1 1] 22 (0, 0)
        simpa using this)
      go_wp2_with (at_builtin; refine wpList_append_sl rfl _ _ 23 rfl w.heap.size 22 (.slice none 0 0) 1 24 Try.underlying23 infoS (by rfl) (by decide) v ws.length (wV ms) (by rfl) ((HO.out.alloc _).alloc _) (some ⟨wr.heap.size + 1, 0, none⟩) 1 1 [.slice (some ⟨wr.heap.size, 0, none⟩) 1 1] (by rfl) (fun h => by cases h) (by rfl) HSN.out (oneCell_wV [⟨some ⟨wr.heap.size, 0, none⟩, 1, [0]⟩]) h63 hby HBB.out.size ?c8)
      intro v3 w3 ho3 hg3
      obtain ⟨ad, cap, rfl, hle, hcm, hsome, _⟩ := owns_len ho3
      obtain ⟨g, rfl⟩ := hsome (by omega)
      have HO3 := Lib.hid ho3
      have HB3 := Lib.hid (HBB.out.grown hg3 HBB.out.size (fun q hq => (HO.out.lt q hq).1))
      have HE3 := Lib.hid (show ∀ x ∈ ms, LentL w.heap.size w3 x from fun x hx =>
        (((HE.out x hx).below ((Below.refl _ _).alloc (Nat.le_refl _) _)).below ((Below.refl _ _).alloc (Nat.le_refl _) _)).grown ((HO.out.alloc _).alloc _) hg3 (by decide))
      have HGM := Lib.hid (show w3.heap[wr.heap.size]? = some (.cells #[.int .i64 (-778)] 3 (0, 0)) from
        (row_past (alloc_old (alloc_at rfl)) hg3 (fun e => by have := (HO.out.lt _ e.symm).2; omega)))
      have hr := fun W => run_slice_hi (P := Try.prog) Try.underlying23 sz22 (some ⟨g, 0, none⟩) ⟨g, 0, rfl⟩ (ws.length + 1) cap .i64 (ws.length : Int) ws.length rfl (by omega) W
      clear ho3 hg3
      go_wp2_with ((with_reducible refine at_slice_op ?_); refine wpList_slice_hi Try.underlying23 (.slice (some ⟨g, 0, none⟩) (ws.length + 1) cap) (.int .i64 (ws.length : Int)) _ ?_ ?_ hr ?_; exact rfl; exact rfl)
      go_ret
      exact ⟨some ⟨g, 0, none⟩, cap, ms, rfl, HML.out, ⟨⟨wr.heap.size, by rw [HMK.out]; exact HO3.out, HGM.out⟩, HE3.out, HI.out⟩, HB3.out⟩
end Go.Proofs.Ytpikmcapnmdmbaa
