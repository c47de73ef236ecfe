/-
  Layer 1: the document's numbers multiplied.
-/
import Derived.Test.YtdkfaicmdbhonaaWh
import Derived.Test.YtdkfaicmdbhonaaPm
import Derived.Deep.OwnRows
import Derived.StillTailTactics
namespace Go.Proofs.Ytdkfaicmdbhonaa
open Go.RowKit Go.K Go.Words
set_option linter.unusedVariables false
set_option linter.unusedSimpArgs false

def zW (n : Nat) : List (BitVec 32) := List.replicate n 0#32
theorem zW_length (n : Nat) : (zW n).length = n := by simp [zW]
theorem val_zW (n : Nat) : val (zW n) = 0 := by
  induction n with
  | zero => rfl
  | succ n ih => show 0 + 4294967296 * val (zW n) = 0; rw [ih]
theorem made_zW (n : Nat) : madeCells #[Value.int .u32 0] n = (vW (zW n)).toArray := by
  apply Array.ext_getElem?
  intro i
  by_cases h : i < n
  · simp [madeCells, vW, zW, h, Nat.mod_one, U32]
  · simp [madeCells, vW, zW, h]
/-- A row of words that the call made. -/
def rowW (W : World) (g : Nat) (l : List (BitVec 32)) : Prop := W.heap[g]? = some (.cells (vW l).toArray 75)
theorem rowW.sl {W : World} {g : Nat} {l : List (BitVec 32)} (h : rowW W g l) : Sl W (some ⟨g, 0, none⟩) (vW l) := by
  intro _
  refine ⟨g, 0, rfl, fun i hi => ?_⟩
  rw [cell_of_row _ _ _ _ _ _ h]; simp
theorem rowW.cell {W : World} {g : Nat} {l : List (BitVec 32)} (h : rowW W g l) (i : Nat) (hi : i < l.length) : W.cell? ⟨g, i, none⟩ = some (.int .u32 (U32 l[i])) := by
  rw [cell_of_row _ _ _ _ _ _ h]
  show (vW l).toArray[i]? = _
  rw [List.getElem?_toArray, vW_get l i hi]
theorem rowW.set {W : World} {g : Nat} {l : List (BitVec 32)} (h : rowW W g l) (i : Nat) (x : BitVec 32) : rowW (W.setCell ⟨g, i, none⟩ (.int .u32 (U32 x))) g (l.set i x) := by
  unfold rowW
  rw [heap_setCell_same _ _ _ _ _ _ h]
  congr 2
  rw [List.setIfInBounds_toArray]
  simp [vW, List.map_set]
theorem make_any (x y : Nat) (hx : x ≤ 1000) (hy : y ≤ 1000) (w : World) :
    (Instr.makeSlice 40 (.int .i64 ((x : Int) + (y : Int) + 1)) (.int .i64 ((x : Int) + (y : Int) + 1))).run Try.prog w = .ok (.slice (some ⟨w.heap.size, 0, none⟩) (x + y + 1) (x + y + 1)) (w.alloc (.cells (vW (zW (x + y + 1))).toArray 75)) := by
  have := run_make_row' (P := Try.prog) 40 75 (.int .u32 0) 4 Try.underlying40 Try.info75 rfl .i64 .i64 (x + y + 1) (by omega) (by omega) w
  rw [made_zW] at this
  rw [show (x : Int) + (y : Int) + 1 = ((x + y + 1 : Nat) : Int) by omega]
  exact this
theorem mul_fin {w wr W0 w2 : World} {gn g k cap : Nat} {b : Bool} {out : List (BitVec 32)} {n : Nat} (hB : Below w.heap.size w wr) (hq : Qt wr W0) (hgr : W0.grownBy w2 (some gn)) (hrow : w2.heap[gn]? = some (.cells #[.bool (b && decide (0 < k)), .slice (some ⟨g, 0, none⟩) k cap] 42))
    (hk : k ≤ out.length) (hc : out.length = cap) (hnm : norm (out.take k)) (hv : val (out.take k) = n) (hO : rowW wr g out) (hI : IsInt wr gn) : w.grownBy w2 (some gn) ∧ IntAt w2 gn (sg b n) := by
  have hlen : (out.take k).length = k := by rw [List.length_take]; exact Nat.min_eq_left hk
  have hI0 : IsInt W0 gn := isInt_heap hI hq.heap
  have hs : Sl w2 (some ⟨g, 0, none⟩) (vW (out.take k)) := sl_awayInt hI0 hgr (by rw [vW_take]; exact sl_take' (sl_heap hO.sl hq.heap) k)
  refine ⟨grown_trans (grown_below (hB.trans (hq.below _)) _) hgr, IntAt.mk' (b := b) (cap := cap) (o := out.take k) (by rw [hlen]; exact hrow) hs hnm (by omega) (by rw [hv]; rfl)⟩
set_option maxRecDepth 100000 in
set_option maxHeartbeats 2000000 in
theorem mul_op (gn gx gy : Nat) (b1 b2 : Bool) (a1 a2 : Option Addr) (c1 c2 : Nat) (l1 l2 : List (BitVec 32)) (w : World) (hn : IsInt w gn) (o1 : Op1 w gx b1 a1 c1 l1) (o2 : Op1 w gy b2 a2 c2 l2) :
    Calls Try.prog 25 #[.pointer (some ⟨gn, 0, none⟩), .pointer (some ⟨gx, 0, none⟩), .pointer (some ⟨gy, 0, none⟩)] w fun e w' => e = .returned (.pointer (some ⟨gn, 0, none⟩)) ∧ w.grownBy w' (some gn) ∧ IntAt w' gn (sg (b1 != b2) (val l1 * val l2)) := by
  have x1 := o1.c1
  have y1 := o2.c1
  have z1 := o1.sh
  have z2 := o2.sh
  have hmk := make_any l1.length l2.length (by omega) (by omega)
  have H1 := Lib.hid o1
  have H2 := Lib.hid o2
  have HN := Lib.hid hn
  clear o1 o2 hn
  have w1 : IntKind.i64.wrap ((l1.length : Int) + (l2.length : Int)) = (l1.length : Int) + (l2.length : Int) := by rw [IntKind.wrap_i64]; omega
  have w2 : IntKind.i64.wrap ((l1.length : Int) + (l2.length : Int) + 1) = (l1.length : Int) + (l2.length : Int) + 1 := by rw [IntKind.wrap_i64]; omega
  go_enter Try.func25, Try.ntmps25
  go_wp2
  go_still_tail 12, (by kernel_rfl)
  go_wp2
  refine wp_world (fun W => Below w.heap.size w W ∧ rowW W w.heap.size (zW (l1.length + l2.length + 1))) ?_ ?_
  · exact ⟨((⟨rfl, rfl, rfl, Nat.le_refl _, fun _ _ => rfl⟩ : Below w.heap.size w w.drew).alloc (Nat.le_refl _) _), alloc_at (w := w.drew) rfl⟩
  intro W ⟨hB, hR⟩
  have HB := Lib.hid hB
  have HR := Lib.hid hR
  clear hB hR x1 y1 hmk w1 w2
  go_loopw [8] (fun i wr => ∃ (k : Nat) (out : List (BitVec 32)), k ≤ l1.length ∧ i = .int .i64 k ∧ out.length = l1.length + l2.length + 1 ∧ val out = val (l1.take k) * val l2 ∧ rowW wr w.heap.size out ∧ Below w.heap.size w wr) (fun i _ => l1.length - (intOf i).toNat)
  case atStart => exact ⟨0, _, Nat.zero_le _, rfl, zW_length _, by rw [val_zW]; simp [val], HR.out, HB.out⟩
  case round =>
    clear HB HR
    obtain ⟨i, out, hi, rfl, hlen, hv, hrow, hb⟩ := hrel
    have HO := Lib.hid hrow
    have HB := Lib.hid hb
    have HV := Lib.hid hv
    have HLN := Lib.hid hlen
    have x1 := (H1.out.away hb).c1
    have y1 := (H2.out.away hb).c1
    clear hrow hb hv hlen
    by_cases hil : i < l1.length
    · have t0 : decide ((i : Int) < (l1.length : Int)) = true := by simp; omega
      go_wp2
      obtain ⟨wo, rfl⟩ : ∃ wo : World, wo = wr := ⟨_, rfl⟩
      go_loopw [9, 10] (fun c kk wq => ∃ (k q : Nat) (out : List (BitVec 32)), k ≤ l2.length + 1 ∧ c = .int .u64 (q : Int) ∧ kk = .int .i64 k ∧ mulSt l1 l2 i k out q ∧ rowW wq w.heap.size out ∧ Below w.heap.size w wq) (fun _ kk _ => l2.length + 1 - (intOf kk).toNat)
      case atStart => exact ⟨0, 0, out, by omega, rfl, rfl, mul_start l1 l2 out i hil HLN.out HV.out, HO.out, HB.out⟩
      case round =>
        clear HO HB HV HLN x1 y1
        obtain ⟨k, q, out, hk, rfl, rfl, hst, hrow, hb⟩ := hrel
        have HO := Lib.hid hrow
        have HB := Lib.hid hb
        have HST := Lib.hid hst
        have x1 := (H1.out.away hb).c1
        have y1 := (H2.out.away hb).c1
        have hq := hst.car
        have i9 : (q : Int) ≤ 4294967295 := by omega
        by_cases hc : k < l2.length ∨ 0 < q
        · obtain ⟨hky, hj, hst'⟩ := mul_step hil hst hc
          have HS' := Lib.hid hst'
          have hoc := hrow.cell (i + k) hj
          have hof := frozen_of_row _ _ (i + k) _ _ hrow
          obtain ⟨bx, ox, rfl, hcx⟩ := (H1.out.away hb).sl (vW_ne hil)
          have hxc := hcx i (by rw [vW_length]; exact hil)
          rw [vW_get l1 i hil] at hxc
          have hxa : at0 l1 i = l1[i] := at0_lt l1 i hil
          rw [← hxa] at hxc
          have HW := Lib.hid (show ∀ V : World, Qt wr V → Calls Try.prog 50 #[.slice a2 l2.length c2, .int .i64 k] V fun e w' => e = .returned (.int .u64 (U32 (at0 l2 k))) ∧ Qt wr w' from
            fun V hV => (word_any a2 c2 l2 k V (hV.sl (H2.out.away hb).sl) (by omega) (by omega)).mono (fun e w' ⟨he, hw⟩ => ⟨he, hw ▸ hV⟩))
          have HX := Lib.hid (hrow.set (i + k) (BitVec.ofNat 32 (out[i + k].toNat + (at0 l1 i).toNat * (at0 l2 k).toNat + q)))
          have hsl := sum_lt _ _ _ _ (out[i + k].isLt) ((at0 l1 i).isLt) ((at0 l2 k).isLt) hst.car
          obtain ⟨p, hp⟩ : ∃ p, p = (at0 l1 i).toNat * (at0 l2 k).toNat := ⟨_, rfl⟩
          obtain ⟨s, hs⟩ : ∃ s, s = out[i + k].toNat + p + q := ⟨_, rfl⟩
          rw [← hp] at hsl HX HS'
          rw [← hs] at hsl HX HS'
          have e0 : IntKind.i64.wrap ((i : Int) + (k : Int)) = (i : Int) + (k : Int) := by rw [IntKind.wrap_i64]; omega
          have hT : ((i : Int) + (k : Int)).toNat = i + k := by omega
          have g1 : IntKind.u64.wrap (U32 (at0 l1 i)) = U32 (at0 l1 i) := by have := U32_lo (at0 l1 i); have := U32_hi (at0 l1 i); rw [IntKind.wrap_u64]; omega
          have g2 : IntKind.u64.wrap (U32 out[i + k]) = U32 out[i + k] := by have := U32_lo out[i + k]; have := U32_hi out[i + k]; rw [IntKind.wrap_u64]; omega
          have e2 : IntKind.u64.wrap (U32 (at0 l1 i) * U32 (at0 l2 k)) = (p : Int) := by
            unfold U32; rw [← Int.natCast_mul, ← hp, IntKind.wrap_u64]; omega
          have e3 : IntKind.u64.wrap (U32 out[i + k] + (p : Int)) = U32 out[i + k] + (p : Int) := by unfold U32; rw [IntKind.wrap_u64]; omega
          have e4 : IntKind.u64.wrap (U32 out[i + k] + (p : Int) + (q : Int)) = (s : Int) := by unfold U32; rw [IntKind.wrap_u64]; omega
          have e5 := (ofNat_U32 s).symm
          have HE6 := Lib.hid (show (s : Int) / 4294967296 = ((s / 4294967296 : Nat) : Int) by omega)
          have o0 := U32_lo out[i + k]
          have o1 := U32_hi out[i + k]
          have a0 := U32_lo (at0 l1 i)
          have a9 := U32_hi (at0 l1 i)
          have d0 := U32_lo (at0 l2 k)
          have d9 := U32_hi (at0 l2 k)
          have i1 : (i : Int) < (l1.length : Int) := by omega
          have i2 : (i : Int) + (k : Int) < (l1.length : Int) + (l2.length : Int) + 1 := by omega
          have i3 : (i : Int) + (k : Int) < ((l1.length + l2.length + 1 : Nat) : Int) := by omega
          have hs64 : (s : Int) ≤ 18446744073709551615 := by omega
          generalize out[i + k] = o at *
          generalize at0 l1 i = xi at *
          generalize at0 l2 k = yk at *
          clear hrow hb hst hst' hcx hxa hsl hs hp hq hj
          by_cases hk1 : k < l2.length
          case' pos =>
            have t1 : decide ((k : Int) < (l2.length : Int)) = true := by simp; omega
          case' neg =>
            have t1 : decide ((k : Int) < (l2.length : Int)) = false := by simp; omega
            have t2 : decide (0 < (q : Int)) = true := by simp; omega
            have t3 : decide (0 < q) = true := by simp; omega
          all_goals
            go_wp2
            refine wp_region_inv 26 (fun V => Qt wr V) (by kernel_rfl) (by kernel_rfl) (fun n => ⟨n, rfl⟩) ?_
            simp only [List.take_succ_cons, List.take_zero]
            iterate 26
              apply wpInv_cons
              · rfl
              · intro Wx hw
                have k1 := (hw.cell ⟨gx, 1, none⟩).trans x1
                have k2 := (hw.cell ⟨gy, 1, none⟩).trans y1
                have k3 := (hw.cell ⟨w.heap.size, i + k, none⟩).trans hoc
                have k4 := (hw.cell ⟨bx, ox + i, none⟩).trans hxc
                go_simp
                first
                  | exact ⟨hw, rfl⟩
                  | (show Calls _ _ _ _ _; with_reducible exact HW.out _ hw)
              simp only [Act.put, List.setIfInBounds_toArray, List.set_cons_zero, List.set_cons_succ, e0, hT, g1, g2, e2, e3, e4]
            refine wpInv_nil fun V hw => ?_
            simp only [List.drop_succ_cons, List.drop_zero]
            have hrV : rowW V w.heap.size out := by unfold rowW; rw [hw.heap]; exact HO.out
            have k3 := (hw.cell ⟨w.heap.size, i + k, none⟩).trans hoc
            have f3 := frozen_of_row _ _ (i + k) _ _ hrV
            have HRV := Lib.hid (hrV.set (i + k) (BitVec.ofNat 32 s))
            have HBV := Lib.hid ((HB.out.trans (hw.below _)).setCell (Nat.le_refl _) (.int .u32 (U32 (BitVec.ofNat 32 s))) (p := ⟨w.heap.size, i + k, none⟩))
            clear hrV hw hoc hof
            go_wp2
            go_roundw
            case rel => exact ⟨k + 1, s / 4294967296, _, by omega, by rw [← HE6.out], by go_num, HS'.out, HRV.out, HBV.out⟩
            case measure => simp [intOf]; omega
        · have t1 : decide ((k : Int) < (l2.length : Int)) = false := by simp; omega
          have t2 : decide (0 < (q : Int)) = false := by simp; omega
          have t3 : decide (0 < q) = false := by simp; omega
          obtain rfl : q = 0 := by omega
          have HE := Lib.hid (mul_end hil hst (by omega))
          have HLN := Lib.hid hst.len
          clear hrow hb hst hq
          go_wp2
          go_roundw
          case rel => exact ⟨i + 1, out, by omega, by go_num, HLN.out, HE.out, HO.out, HB.out⟩
          case measure => simp [intOf]; omega
    · have t0 : decide ((i : Int) < (l1.length : Int)) = false := by simp; omega
      have HE := Lib.hid (show val out = val l1 * val l2 by rw [HV.out, List.take_of_length_le (by omega)])
      have x0 := (H1.out.away HB.out).c0
      have y0 := (H2.out.away HB.out).c0
      have HS := Lib.hid (show ∀ V : World, V.heap = wr.heap → Calls Try.prog 52 #[.slice (some ⟨w.heap.size, 0, none⟩) (l1.length + l2.length + 1) (l1.length + l2.length + 1)] V fun e w' => ∃ k, k ≤ l1.length + l2.length + 1 ∧ e = .returned (.slice (some ⟨w.heap.size, 0, none⟩) k (l1.length + l2.length + 1)) ∧ norm (out.take k) ∧ val (out.take k) = val out ∧ V = w' from
        fun V h => short_at _ _ _ out V HLN.out (sl_heap HO.out.sl h) (by omega) (by omega))
      have HI := Lib.hid (show ∀ V : World, V.heap = wr.heap → IsInt V gn from fun V h => isInt_heap (HN.out.kept HB.out) h)
      clear HV
      go_wp2
      go_region_with
        (first
          | (go_at_call 52; refine (HS.out _ ?_).mono ?_; exact rfl; rintro e w1 ⟨k, hk, rfl, hnm, hv, rfl⟩)
          | (go_at_call 51; refine (signed_any gn (b1 != b2) (some ⟨w.heap.size, 0, none⟩) k (l1.length + l2.length + 1) _ ?_).mono ?_; exact HI.out _ rfl; rintro e w2 ⟨rfl, hgr, hrow⟩))
      all_goals
        have G1 := Lib.hid hgr
        have G2 := Lib.hid hrow
        have G3 := Lib.hid hnm
        have G4 := Lib.hid hv
        clear hgr hrow hnm hv
        go_wp2
        go_ret
        exact ⟨rfl, mul_fin HB.out ⟨_, rfl⟩ G1.out G2.out (by rw [HLN.out]; exact hk) (by rw [HLN.out]) G3.out (by rw [G4.out, HE.out]) HO.out (HN.out.kept HB.out)⟩
theorem mul_any (gn gx gy : Nat) (x y : Int) (w : World) (hn : IsInt w gn) (hx : IntAt w gx x) (hy : IntAt w gy y) (bx : x.natAbs < pw 900) (by' : y.natAbs < pw 900) :
    Calls Try.prog 25 #[.pointer (some ⟨gn, 0, none⟩), .pointer (some ⟨gx, 0, none⟩), .pointer (some ⟨gy, 0, none⟩)] w fun e w' => e = .returned (.pointer (some ⟨gn, 0, none⟩)) ∧ w.grownBy w' (some gn) ∧ IntAt w' gn (x * y) := by
  obtain ⟨b1, a1, c1, l1, o1, e1, v1⟩ := hx.open bx
  obtain ⟨b2, a2, c2, l2, o2, e2, v2⟩ := hy.open by'
  refine (mul_op gn gx gy b1 b2 a1 a2 c1 c2 l1 l2 w hn o1 o2).mono fun e w' ⟨h1, h2, h3⟩ => ⟨h1, h2, ?_⟩
  have : x * y = sg (b1 != b2) (val l1 * val l2 : Nat) := by
    rw [e1, e2]; unfold sg
    cases b1 <;> cases b2 <;> simp [Int.natCast_mul, Int.neg_mul, Int.mul_neg]
  rw [this]; exact h3
end Go.Proofs.Ytdkfaicmdbhonaa
