/-
  Layer 6: fill, for a table of two.
-/
import Derived.Test.YtndhlgbpfkidbaaTa
import Derived.Deep.DeepCutAuto
import Derived.Deep.CutBlock
import Derived.StillTailTactics
namespace Go.Proofs.Ytndhlgbpfkidbaa
open Go.RowKit Go.K
set_option linter.unusedVariables false
set_option linter.unusedSimpArgs false
/-- What is known of a table of two. -/
def tabF (n wh c0 c1 : Int) : Nat → Option Value
  | 0 => some (.int .i64 n)
  | 1 => some (.int .i64 wh)
  | 2 => some (.int .i64 c0)
  | 3 => some (.int .i64 c1)
  | _ => none
theorem only_set {W : World} {g k : Nat} {v : Value} : Only (fun x => x = g) W (W.setCell ⟨g, k, none⟩ v) := Only.of_grown (grown_set (grown_below (Below.refl _ _) _) k v) (fun x hx => by injection hx with e; exact e.symm)
/-- What fill keeps. -/
structure FS (w : World) (g : Nat) (tf rf hf : Nat → Option Value) (W : World) : Prop where
  gl : g < w.heap.size
  bx : W.heap[w.heap.size]? = some (.cells #[.pointer (some ⟨g, 0, none⟩)] 46)
  tab : Cl W g 96 770 tf
  rs : Cl W (w.heap.size + 1) 91 256 rf
  hs : Cl W (w.heap.size + 2) 116 256 hf
  only : Only (fun x => x = g) w W
section
variable {w W W' : World} {g : Nat} {tf rf hf rf' hf' : Nat → Option Value}
theorem FS.box (h : FS w g tf rf hf W) : W.cell? ⟨w.heap.size, 0, none⟩ = some (.pointer (some ⟨g, 0, none⟩)) := by rw [cell_of_row _ _ _ _ _ _ h.bx]; rfl
theorem FS.kept (h : FS w g tf rf hf W) (hb : Below W.heap.size W W') : FS w g tf rf hf W' :=
  ⟨h.gl, row_kept h.bx hb, h.tab.kept hb, h.rs.kept hb, h.hs.kept hb, h.only.trans (Only.of_below (S := fun x => x = g) hb) (fun k hk => .inl hk)⟩
theorem FS.drew (h : FS w g tf rf hf W) : FS w g tf rf hf W.drew := h.kept (below_drawn (Below.refl _ _) _)
theorem FS.rowSet (h : W.heap[w.heap.size]? = some (.cells #[.pointer (some ⟨g, 0, none⟩)] 46)) {b k : Nat} (hne : b ≠ w.heap.size) (v : Value) : (W.setCell ⟨b, k, none⟩ v).heap[w.heap.size]? = some (.cells #[.pointer (some ⟨g, 0, none⟩)] 46) := by
  rw [heap_setCell_other _ _ _ _ (fun e => hne e.symm)]; exact h
theorem FS.setR (h : FS w g tf rf hf W) {k : Nat} (hk : k < 256) (v : Value) (hr : ∀ j u, rf' j = some u → (if j = k then some v else rf j) = some u) : FS w g tf rf' hf (W.setCell ⟨w.heap.size + 1, k, none⟩ v) := by
  have hg := h.gl
  exact ⟨hg, FS.rowSet h.bx (by omega) v, h.tab.other (by omega) v, (h.rs.setC hk v).mono hr, h.hs.other (by omega) v, h.only.trans (only_set (v := v)) (fun x hx => .inr (by omega))⟩
theorem FS.setH (h : FS w g tf rf hf W) {k : Nat} (hk : k < 256) (v : Value) (hr : ∀ j u, hf' j = some u → (if j = k then some v else hf j) = some u) : FS w g tf rf hf' (W.setCell ⟨w.heap.size + 2, k, none⟩ v) := by
  have hg := h.gl
  exact ⟨hg, FS.rowSet h.bx (by omega) v, h.tab.other (by omega) v, h.rs.other (by omega) v, (h.hs.setC hk v).mono hr, h.only.trans (only_set (v := v)) (fun x hx => .inr (by omega))⟩
theorem FS.setT (h : FS w g tf rf hf W) {k : Nat} (hk : k < 770) (v : Value) (hn : tf k = none) : FS w g tf rf hf (W.setCell ⟨g, k, none⟩ v) := by
  have hg := h.gl
  exact ⟨hg, FS.rowSet h.bx (by omega) v, (h.tab.setC hk v).mono (fun j u e => by rw [if_neg (fun e2 => by rw [e2, hn] at e; cases e)]; exact e), h.rs.other (by omega) v, h.hs.other (by omega) v, h.only.trans only_set (fun x hx => .inl hx)⟩
end
def rF (j : Nat) : Nat → Option Value := fun k => if k < j then some (.int .i64 (if k = 0 then 1610612736 else 536870912)) else none
def rF3 : Nat → Option Value | 0 => some (.int .i64 1073741824) | 1 => some (.int .i64 536870912) | _ => none
def hF (b : Bool) : Nat → Option Value | 0 => some (.bool false) | 1 => some (.bool b) | _ => none
def tF : Nat → Option Value := tabF 2 1073741824 805306368 268435456
theorem zero91 : Try.zeroCells91.size = 256 := by kernel_rfl
theorem zero116 : Try.zeroCells116.size = 256 := by kernel_rfl
theorem zero116a : Try.zeroCells116[0]? = some (.bool false) ∧ Try.zeroCells116[1]? = some (.bool false) := by constructor <;> kernel_rfl
set_option maxRecDepth 100000 in
set_option maxHeartbeats 4000000 in
theorem fill_any (g : Nat) (w : World) (h : Cl w g 96 770 tF) :
    Calls Try.prog 47 #[.pointer (some ⟨g, 0, none⟩)] w fun r w' => r = .returned (.tuple #[]) ∧ Cl w' g 96 770 tF ∧ Only (fun x => x = g) w w' := by
  have H := Lib.hid h
  clear h
  go_enter Try.func47, Try.ntmps47
  go_upto_region 3 with fail
  refine wp_world (fun W => FS w g tF (rF 0) (hF false) W)
    ⟨H.out.lt, alloc_old (alloc_old (alloc_at rfl)), H.out.kept ((((Below.refl _ _).alloc (Nat.le_refl _) _).alloc (by simp) _).alloc (by simp; omega) _), ⟨_, alloc_old (alloc_at (by simp)), zero91, fun k v e => by simp [rF] at e⟩,
      ⟨_, alloc_at (by simp), zero116, fun k v e => by
        match k, e with
        | 0, e => rw [zero116a.1]; exact e
        | 1, e => rw [zero116a.2]; exact e⟩, Only.of_below ((((Below.refl _ _).alloc (Nat.le_refl _) _).alloc (by simp) _).alloc (by simp; omega) _)⟩ ?_
  rintro W0 hF0
  have HF0 := Lib.hid hF0
  have zb := hF0.box
  have z0 := hF0.tab.cell (k := 0) (v := .int .i64 2) rfl
  clear hF0
  go_wp2
  clear zb z0
  go_loopw [4, 12] (fun s4 i V => ∃ j : Nat, j ≤ 2 ∧ i = .int .i64 j ∧ FS w g tF (rF j) (hF false) V) (fun _ i _ => 2 - (intOf i).toNat)
  case atStart => exact ⟨0, by omega, rfl, HF0.out⟩
  case round =>
    clear HF0
    obtain ⟨j, hj, rfl, hf⟩ := hrel
    have HF := Lib.hid hf
    clear hf
    by_cases hlt : j < 2
    · have hj2 : j = 0 ∨ j = 1 := by omega
      clear hj hlt
      rcases hj2 with rfl | rfl
      · have zb := HF.out.box
        have z0 := HF.out.tab.cell (k := 0) (v := .int .i64 2) rfl
        have z1 := HF.out.tab.cell (k := 1) (v := .int .i64 1073741824) rfl
        have zc := HF.out.tab.cell (k := 2) (v := .int .i64 805306368) rfl
        obtain ⟨u, hu⟩ := HF.out.rs.ex (k := 0) (by decide)
        have fu := HF.out.rs.frozen 0
        go_upto_region 6 with fail
        have HK := Lib.hid (fun v => (FS.setR (rf' := fun _ => none) HF.out (k := 0) (by decide) v (fun j u e => by cases e)).drew)
        have HT := Lib.hid (show ∀ x, (fun V : World => V.cell? ⟨w.heap.size, 0, none⟩ = some (.pointer (some ⟨g, 0, none⟩)) ∧ V.cell? ⟨g, 0, none⟩ = some (.int .i64 2) ∧ V.cell? ⟨g, 2, none⟩ = some (.int .i64 805306368)) (wr.setCell ⟨w.heap.size + 1, 0, none⟩ x).drew from fun x =>
          ⟨(HK.out _).box, (HK.out _).tab.cell (k := 0) rfl, (HK.out _).tab.cell (k := 2) rfl⟩)
        go_region_held3 (fun V => V.cell? ⟨w.heap.size, 0, none⟩ = some (.pointer (some ⟨g, 0, none⟩)) ∧ V.cell? ⟨g, 0, none⟩ = some (.int .i64 2) ∧ V.cell? ⟨g, 2, none⟩ = some (.int .i64 805306368)) (first | exact HT.out _ | go_keep) (fail)
        clear zb z0 z1 zc hu fu HK HT
        have e0 : IntKind.i64.wrap 1610612736 = 1610612736 := by decide
        go_upto_region 7 with fail
        refine wp_world (fun W => FS w g tF (rF (0 + 1)) (hF false) W) ?_ ?_
        · refine FS.drew (FS.setR HF.out (k := 0) (by decide) _ (fun q u e => ?_))
          rw [e0]
          match q, e with
          | 0, e => exact e
          | 1, e => cases e
          | q + 2, e => simp only [rF] at e; rw [if_neg (by omega)] at e; cases e
        rintro W1 hf1
        have HF1 := Lib.hid hf1
        have zb := hf1.box
        have z1 := hf1.tab.cell (k := 1) (v := .int .i64 1073741824) rfl
        obtain ⟨u, hu⟩ := hf1.tab.ex (k := 258) (by decide)
        obtain ⟨u', hu'⟩ := hf1.tab.ex (k := 259) (by decide)
        have fu := hf1.tab.frozen 258
        have fu' := hf1.tab.frozen 259
        have HT := Lib.hid (show ∀ x y, (fun V : World => V.cell? ⟨w.heap.size, 0, none⟩ = some (.pointer (some ⟨g, 0, none⟩)) ∧ V.cell? ⟨g, 1, none⟩ = some (.int .i64 1073741824)) ((W1.setCell ⟨g, 258, none⟩ x).setCell ⟨g, 259, none⟩ y).drew from fun x y =>
          ⟨((hf1.setT (k := 258) (by decide) x rfl).setT (k := 259) (by decide) y rfl).drew.box, ((hf1.setT (k := 258) (by decide) x rfl).setT (k := 259) (by decide) y rfl).drew.tab.cell (k := 1) rfl⟩)
        clear hf1
        go_region_held3 (fun V => V.cell? ⟨w.heap.size, 0, none⟩ = some (.pointer (some ⟨g, 0, none⟩)) ∧ V.cell? ⟨g, 1, none⟩ = some (.int .i64 1073741824)) (first | exact HT.out _ _ | go_keep) (fail)
        clear zb z1 hu hu' fu fu' HT
        go_upto_region 8 with fail
        refine wp_world (fun W => FS w g tF (rF (0 + 1)) (hF false) W) (((HF1.out.setT (k := 258) (by decide) _ rfl).setT (k := 259) (by decide) _ rfl).drew) ?_
        rintro W2 hf2
        have HF2 := Lib.hid hf2
        clear hf2
        go_wp2
        go_roundw
        case rel => exact ⟨0 + 1, by decide, by go_num, HF2.out⟩
        case measure => simp [intOf]
      · have zb := HF.out.box
        have z0 := HF.out.tab.cell (k := 0) (v := .int .i64 2) rfl
        have z1 := HF.out.tab.cell (k := 1) (v := .int .i64 1073741824) rfl
        have zc := HF.out.tab.cell (k := 3) (v := .int .i64 268435456) rfl
        obtain ⟨u, hu⟩ := HF.out.rs.ex (k := 1) (by decide)
        have fu := HF.out.rs.frozen 1
        go_upto_region 6 with fail
        have HK := Lib.hid (fun v => (FS.setR (rf' := fun _ => none) HF.out (k := 1) (by decide) v (fun j u e => by cases e)).drew)
        have HT := Lib.hid (show ∀ x, (fun V : World => V.cell? ⟨w.heap.size, 0, none⟩ = some (.pointer (some ⟨g, 0, none⟩)) ∧ V.cell? ⟨g, 0, none⟩ = some (.int .i64 2) ∧ V.cell? ⟨g, 3, none⟩ = some (.int .i64 268435456)) (wr.setCell ⟨w.heap.size + 1, 1, none⟩ x).drew from fun x =>
          ⟨(HK.out _).box, (HK.out _).tab.cell (k := 0) rfl, (HK.out _).tab.cell (k := 3) rfl⟩)
        go_region_held3 (fun V => V.cell? ⟨w.heap.size, 0, none⟩ = some (.pointer (some ⟨g, 0, none⟩)) ∧ V.cell? ⟨g, 0, none⟩ = some (.int .i64 2) ∧ V.cell? ⟨g, 3, none⟩ = some (.int .i64 268435456)) (first | exact HT.out _ | go_keep) (fail)
        clear zb z0 z1 zc hu fu HK HT
        have e0 : IntKind.i64.wrap 536870912 = 536870912 := by decide
        go_upto_region 7 with fail
        refine wp_world (fun W => FS w g tF (rF (1 + 1)) (hF false) W) ?_ ?_
        · refine FS.drew (FS.setR HF.out (k := 1) (by decide) _ (fun q u e => ?_))
          rw [e0]
          match q, e with
          | 0, e => exact e
          | 1, e => exact e
          | q + 2, e => simp only [rF] at e; rw [if_neg (by omega)] at e; cases e
        rintro W1 hf1
        have HF1 := Lib.hid hf1
        have zb := hf1.box
        have z1 := hf1.tab.cell (k := 1) (v := .int .i64 1073741824) rfl
        obtain ⟨u, hu⟩ := hf1.tab.ex (k := 260) (by decide)
        obtain ⟨u', hu'⟩ := hf1.tab.ex (k := 261) (by decide)
        have fu := hf1.tab.frozen 260
        have fu' := hf1.tab.frozen 261
        have HT := Lib.hid (show ∀ x y, (fun V : World => V.cell? ⟨w.heap.size, 0, none⟩ = some (.pointer (some ⟨g, 0, none⟩)) ∧ V.cell? ⟨g, 1, none⟩ = some (.int .i64 1073741824)) ((W1.setCell ⟨g, 260, none⟩ x).setCell ⟨g, 261, none⟩ y).drew from fun x y =>
          ⟨((hf1.setT (k := 260) (by decide) x rfl).setT (k := 261) (by decide) y rfl).drew.box, ((hf1.setT (k := 260) (by decide) x rfl).setT (k := 261) (by decide) y rfl).drew.tab.cell (k := 1) rfl⟩)
        clear hf1
        go_region_held3 (fun V => V.cell? ⟨w.heap.size, 0, none⟩ = some (.pointer (some ⟨g, 0, none⟩)) ∧ V.cell? ⟨g, 1, none⟩ = some (.int .i64 1073741824)) (first | exact HT.out _ _ | go_keep) (fail)
        clear zb z1 hu hu' fu fu' HT
        go_upto_region 8 with fail
        refine wp_world (fun W => FS w g tF (rF (1 + 1)) (hF false) W) (((HF1.out.setT (k := 260) (by decide) _ rfl).setT (k := 261) (by decide) _ rfl).drew) ?_
        rintro W2 hf2
        have HF2 := Lib.hid hf2
        clear hf2
        go_wp2
        go_roundw
        case rel => exact ⟨1 + 1, by decide, by go_num, HF2.out⟩
        case measure => simp [intOf]
    · have t0 : decide ((j : Int) < 2) = false := by simp; omega
      obtain rfl : j = 2 := by omega
      clear hj hlt
      have FH : ∀ (low : Bool) (V : World) (R0 R1 : Int) (rf : Nat → Option Value) (b : Bool), rf 0 = some (.int .i64 R0) → rf 1 = some (.int .i64 R1) → FS w g tF rf (hF b) V → Calls Try.prog 69 #[.bool low, .pointer (some ⟨w.heap.size, 0, none⟩), .pointer (some ⟨w.heap.size + 2, 0, none⟩), .pointer (some ⟨w.heap.size + 1, 0, none⟩)] V fun r w' => r = .returned (.int .i64 (findV low (fun k => if k = 0 then false else b) (fun k => if k = 0 then R0 else R1) 1073741824)) ∧ FS w g tF rf (hF b) w' := fun low V R0 R1 rf b h0 h1 h =>
        (find_any low (fun k => if k = 0 then false else b) (fun k => if k = 0 then R0 else R1) 1073741824 w.heap.size (w.heap.size + 2) (w.heap.size + 1) g V h.box (h.tab.cell (k := 0) rfl) (h.tab.cell (k := 1) rfl)
          (fun k hk => by
            rcases (show k = 0 ∨ k = 1 by omega) with rfl | rfl
            · exact h.hs.cell (k := 0) rfl
            · exact h.hs.cell (k := 1) rfl)
          (fun k hk => by
            rcases (show k = 0 ∨ k = 1 by omega) with rfl | rfl
            · exact h.rs.cell h0
            · exact h.rs.cell h1)).mono fun r w' ⟨e1, e2⟩ => ⟨e1, h.kept (e2.below _)⟩
      have HFH := Lib.hid FH
      clear FH
      have K1 := Lib.hid (HFH.out true wr 1610612736 536870912 (rF 2) false rfl rfl HF.out)
      go_wp2_with fail
      refine K1.out.mono ?_
      rintro r0 w1 ⟨rfl, hf1⟩
      have HF1 := Lib.hid hf1
      rw [show findV true (fun k => if k = 0 then false else false) (fun k => if k = 0 then 1610612736 else 536870912) 1073741824 = 1 from by decide]
      clear hf1 K1 HF
      go_wp2
      go_loopw [6, 7] (fun s6 s7 V => (s6 = .int .i64 1 ∧ FS w g tF (rF 2) (hF false) V) ∨ (s6 = .int .i64 (-1) ∧ FS w g tF rF3 (hF true) V)) (fun s6 _ _ => (intOf s6 + 1).toNat)
      case atStart => exact .inl ⟨rfl, HF1.out⟩
      case round =>
        clear HF1
        rcases hrel with ⟨rfl, hf⟩ | ⟨rfl, hf⟩
        · have HF := Lib.hid hf
          have K2 := Lib.hid (HFH.out false wr 1610612736 536870912 (rF 2) false rfl rfl hf)
          clear hf
          go_wp2_with fail
          refine K2.out.mono ?_
          rintro r0 w2 ⟨rfl, hf2⟩
          have HF2 := Lib.hid hf2
          rw [show findV false (fun k => if k = 0 then false else false) (fun k => if k = 0 then 1610612736 else 536870912) 1073741824 = 0 from by decide]
          clear K2 HF
          have zb := hf2.box
          have zr := hf2.rs.cell (k := 1) (v := .int .i64 536870912) rfl
          have zh := hf2.hs.cell (k := 1) (v := .bool false) rfl
          have fh := hf2.hs.frozen 1
          obtain ⟨u, hu⟩ := hf2.tab.ex (k := 260) (by decide)
          obtain ⟨u', hu'⟩ := hf2.tab.ex (k := 261) (by decide)
          have fu := hf2.tab.frozen 260
          have fu' := hf2.tab.frozen 261
          have HA := Lib.hid (show ∀ x y, FS w g tF (rF 2) (hF false) ((w2.setCell ⟨g, 260, none⟩ x).setCell ⟨g, 261, none⟩ y) from fun x y => (hf2.setT (k := 260) (by decide) x rfl).setT (k := 261) (by decide) y rfl)
          have HB := Lib.hid (show ∀ x y, FS w g tF (rF 2) (hF true) (((w2.setCell ⟨g, 260, none⟩ x).setCell ⟨g, 261, none⟩ y).setCell ⟨w.heap.size + 2, 1, none⟩ (.bool true)) from fun x y => (HA.out x y).setH (k := 1) (by decide) _ (fun q u e => by
            match q, e with
            | 0, e => exact e
            | 1, e => exact e
            | q + 2, e => cases e))
          have HT := Lib.hid (show ∀ (V : World) (hf : Nat → Option Value), FS w g tF (rF 2) hf V → V.cell? ⟨w.heap.size, 0, none⟩ = some (.pointer (some ⟨g, 0, none⟩)) ∧ V.cell? ⟨w.heap.size + 1, 1, none⟩ = some (.int .i64 536870912) from fun V hf h => ⟨h.box, h.rs.cell (k := 1) rfl⟩)
          have zh2 : ∀ x y, ((w2.setCell ⟨g, 260, none⟩ x).setCell ⟨g, 261, none⟩ y).cell? ⟨w.heap.size + 2, 1, none⟩ = some (.bool false) := fun x y => (HA.out x y).hs.cell (k := 1) rfl
          have fh2 : ∀ x y, ((w2.setCell ⟨g, 260, none⟩ x).setCell ⟨g, 261, none⟩ y).frozen? ⟨w.heap.size + 2, 1, none⟩ = false := fun x y => (HA.out x y).hs.frozen 1
          clear hf2
          go_upto_region 14 with fail
          go_region_held3 (fun V => V.cell? ⟨w.heap.size, 0, none⟩ = some (.pointer (some ⟨g, 0, none⟩)) ∧ V.cell? ⟨w.heap.size + 1, 1, none⟩ = some (.int .i64 536870912)) (first | exact HT.out _ _ (HA.out _ _).drew | exact HT.out _ _ (HB.out _ _).drew | go_keep) (fail)
          clear zb zr zh fh hu hu' fu fu' zh2 fh2 HT
          go_upto_region 15 with fail
          refine wp_world (fun W => FS w g tF (rF 2) (hF true) W) ((HB.out _ _).drew) ?_
          rintro W3 hf3
          have HF3 := Lib.hid hf3
          have zb := hf3.box
          have z1 := hf3.tab.cell (k := 1) (v := .int .i64 1073741824) rfl
          have zr0 := hf3.rs.cell (k := 0) (v := .int .i64 1610612736) rfl
          have zr1 := hf3.rs.cell (k := 1) (v := .int .i64 536870912) rfl
          have fr0 := hf3.rs.frozen 0
          have e0 : IntKind.i64.wrap (1610612736 - IntKind.i64.wrap (1073741824 - 536870912)) = 1073741824 := by decide
          have HC := Lib.hid (show ∀ x, FS w g tF (fun k => if k = 1 then some (.int .i64 536870912) else none) (hF true) (W3.setCell ⟨w.heap.size + 1, 0, none⟩ x) from fun x => hf3.setR (k := 0) (by decide) x (fun q u e => by
            by_cases c : q = 1
            · subst c; exact e
            · rw [if_neg c] at e; cases e))
          clear hf3 HA HB HF2
          clear e0
          go_still_tail 13, (by kernel_rfl)
          go_upto_region 12 with fail
          clear zb z1 zr0 zr1 fr0 HC
          refine wp_world (fun W => FS w g tF rF3 (hF true) W) ?_ ?_
          · refine FS.drew (FS.setR HF3.out (k := 0) (by decide) _ (fun q u e => ?_))
            match q, e with
            | 0, e => exact e
            | 1, e => exact e
            | q + 2, e => cases e
          rintro W4 hf4
          have HF4 := Lib.hid hf4
          have K4 := Lib.hid (HFH.out true W4 1073741824 536870912 rF3 true rfl rfl hf4)
          clear hf4 HF3
          go_wp2_with fail
          refine K4.out.mono ?_
          rintro r0 w5 ⟨rfl, hf5⟩
          have HF5 := Lib.hid hf5
          rw [show findV true (fun k => if k = 0 then false else true) (fun k => if k = 0 then 1073741824 else 536870912) 1073741824 = -1 from by decide]
          clear hf5 K4 HF4
          go_wp2
          go_roundw
          case rel => exact .inr ⟨rfl, HF5.out⟩
          case measure => simp [intOf]
        · have t0 : True := trivial
          have HF := Lib.hid hf
          clear hf
          go_wp2
          exact bodyPost_end (results_none Try.results47 _ _ _) rfl ⟨rfl, HF.out.tab, HF.out.only⟩
end Go.Proofs.Ytndhlgbpfkidbaa
