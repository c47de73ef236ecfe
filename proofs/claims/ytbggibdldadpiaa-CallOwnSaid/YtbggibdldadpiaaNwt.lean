/-
  Layer 1: the document's numbers of any length: shifted by 64 bits.
-/
import Derived.Test.YtbggibdldadpiaaNwh
import Derived.Test.YtbggibdldadpiaaNwo
import Derived.Test.YtbggibdldadpiaaGen
import Derived.Deep.AppendLies
namespace Go.Proofs.Ytbggibdldadpiaa.n01
open Go.RowKit Go.K Go.Words
set_option linter.unusedVariables false
set_option linter.unusedSimpArgs false
theorem sl_heap2 {w W : World} {a : Option Addr} {vs : List Value} (h : Sl w a vs) (hh : W.heap = w.heap) : Sl W a vs := sl_heap h hh
theorem low_x (x y : BitVec 32) : IntKind.u32.wrap (U64 (BitVec.ofNat 64 (x.toNat + 4294967296 * y.toNat))) = U32 x := by
  rw [wrap_U32, U64_ofInt32]
  congr 1
  apply BitVec.eq_of_toNat_eq
  rw [BitVec.toNat_setWidth, BitVec.toNat_ofNat]
  have := x.isLt
  have := y.isLt
  omega
set_option maxRecDepth 100000 in
set_option maxHeartbeats 2000000 in
theorem rsh_op (gn gx : Nat) (b1 : Bool) (a1 : Option Addr) (c1 : Nat) (l1 : List (BitVec 32)) (w : World) (hn : IsInt w gn) (o1 : Op1 w gx b1 a1 c1 l1) :
    Calls Try.prog 41 #[.pointer (some ⟨gn, 0, none⟩), .pointer (some ⟨gx, 0, none⟩), .int .i64 64] w fun e w' => e = .returned (.pointer (some ⟨gn, 0, none⟩)) ∧ w.grownBy w' (some gn) ∧ IntAt w' gn ((val l1 / 18446744073709551616 : Nat) : Int) := by
  have hsh := o1.sh
  have HO1 := Lib.hid o1
  have HN := Lib.hid hn
  have HV := Lib.hid (show val (l1.drop 2) = val l1 / 18446744073709551616 by
    by_cases h2 : 2 ≤ l1.length
    · have h := val_split l1 2 h2
      have hl := val_lt (l1.take 2)
      rw [List.length_take, Nat.min_eq_left h2] at hl
      have hp : pw 2 = 18446744073709551616 := rfl
      rw [hp] at h hl
      omega
    · rw [List.drop_of_length_le (by omega)]
      have hl := val_lt l1
      have hp := pw_le (show l1.length ≤ 1 by omega)
      have h1 : pw 1 = 4294967296 := rfl
      show 0 = _
      omega)
  clear o1 hn
  go_enter Try.func41, Try.ntmps41
  go_wp2
  go_loopw [7, 8] (fun v' i wr => ∃ (q : Nat) (v : Value), v = v' ∧ 2 ≤ q ∧ (q ≤ l1.length ∨ q = 2) ∧ i = .int .i64 q ∧ wr.ownsRow w.heap.size 94 1 v (q - 2) (vW ((l1.drop 2).take (q - 2))) ∧ Below w.heap.size w wr) (fun _ i _ => l1.length - (intOf i).toNat)
  case atStart => exact ⟨2, _, rfl, by omega, .inr rfl, rfl, World.ownsRow_nil _ _ _ _, Below.refl _ _⟩
  case round =>
    obtain ⟨q, v, hv, hq2, hq, rfl, hown, hb⟩ := hrel
    subst hv
    have HO := Lib.hid hown
    have HB := Lib.hid hb
    have x1 := below_cell hb HO1.out.c1
    clear hown hb
    by_cases hlt : q < l1.length
    · have t0 : decide ((q : Int) < (l1.length : Int)) = true := by simp; omega
      have E0 : IntKind.i64.wrap ((q : Int) + 1) = ((q + 1 : Nat) : Int) := by rw [IntKind.wrap_i64]; omega
      have W1 := Lib.hid (fun V (h : V.heap = wr.heap) => word_any a1 c1 l1 q V (sl_heap (HO1.out.sl.kept HB.out) h) (by omega) (by omega))
      have W2 := Lib.hid (show ∀ V : World, V.heap = wr.heap → Calls Try.prog 60 #[.slice a1 l1.length c1, .int .i64 ((q : Int) + 1)] V fun e w' => e = .returned (.int .u64 (U32 (at0 l1 (q + 1)))) ∧ V = w' from
        fun V h => word_any a1 c1 l1 (q + 1) V (sl_heap (HO1.out.sl.kept HB.out) h) (by omega) (by omega))
      have hu := u64_x (at0 l1 q) (at0 l1 (q + 1))
      have hlo := low_x (at0 l1 q) (at0 l1 (q + 1))
      have HT := Lib.hid (show vW ((l1.drop 2).take (q - 2)) ++ [.int .u32 (U32 (at0 l1 q))] = vW ((l1.drop 2).take (q + 1 - 2)) by
        have h1 : q - 2 < (l1.drop 2).length := by rw [List.length_drop]; omega
        rw [show q + 1 - 2 = q - 2 + 1 by omega, List.take_succ_eq_append_getElem h1, vW_append, List.getElem_drop]
        rw [at0_lt l1 q hlt]
        congr 3
        simp only [show 2 + (q - 2) = q by omega])
      generalize BitVec.ofNat 64 ((at0 l1 q).toNat + 4294967296 * (at0 l1 (q + 1)).toNat) = R at hu hlo
      generalize at0 l1 (q + 1) = y at hu hlo W2
      generalize at0 l1 q = x at hu hlo HT W1
      have E5 : IntKind.u32.wrap (U64 R / 2 ^ min (IntKind.u64.wrap 0).toNat 64) = U32 x := by
        rw [show min (IntKind.u64.wrap 0).toNat 64 = 0 from rfl, Int.pow_zero, Int.ediv_one]; exact hlo
      have hR0 := U64_lo R
      have hR1 := U64_hi R
      have hdr : Below wr.heap.size wr wr.drew := below_drawn (Below.refl _ _) _
      have HOd := Lib.hid (owns_below (B := 0) HO.out hdr)
      have HBd := Lib.hid (HB.out.trans (hdr.mono HB.out.size))
      have hgx : gx < w.heap.size := lt_row HO1.out.row
      have HNE := Lib.hid (show some gx ≠ v.ownBlock from fun e => by have := (HO.out.lt _ e.symm).1; omega)
      have B1 := Lib.hid (show q - 2 + 1 ≤ maxLen by unfold maxLen; omega)
      have B2 := Lib.hid (show (q - 2 + 1) * 4 ≤ 140737488355328 by omega)
      have XC := Lib.hid (show wr.drew.cell? ⟨gx, 1, none⟩ = some (.slice a1 l1.length c1) from x1)
      clear hdr
      go_wp2
      go_region_held3 (fun V => V.cell? ⟨gx, 1, none⟩ = some (.slice a1 l1.length c1)) (go_keep)
        ((first
          | (go_at_call 60; ((first | (with_reducible refine (W1.out wr.drew rfl).mono ?_) | (with_reducible refine (W2.out wr.drew rfl).mono ?_))); rintro r1 y1 ⟨rfl, rfl⟩)
          | ((with_reducible refine at_append_step ?_); refine step_append_sl_at (by rfl) _ _ 71 (by rfl) w.heap.size 94 (.int .u32 0) 1 4 Try.underlying71 Try.info75 (by rfl) (by decide) v (q - 2) (vW ((l1.drop 2).take (q - 2))) (by rfl) (HOd.out.alloc _) _ 1 1 [.int .u32 (U32 x)] (by rfl) (fun h => by cases h) (by rfl) (sl_new _ _ _ _) (one_int _ _) B1.out B2.out (Nat.le_trans HBd.out.size (by simp)) ?_; intro v2 w2 ho2 hg2 hl2
             have hba := HBd.out
             have y0 : w2.cell? ⟨gx, 1, none⟩ = some (.slice a1 l1.length c1) := hg2.cell (below_cell ((Below.refl _ _).alloc (Nat.le_refl _) _) XC.out) HNE.out
             have hb2 : Below w.heap.size w w2 := Below.grown (Below.alloc hba hba.size _) hg2 (Below.alloc hba hba.size _).size (fun j hj => (HOd.out.lt j hj).1))))
      have HO2 := Lib.hid (show w2.ownsRow w.heap.size 94 1 v2 (q + 1 - 2) (vW ((l1.drop 2).take (q + 1 - 2))) by rw [← HT.out, show q + 1 - 2 = q - 2 + 1 by omega]; exact ho2)
      have HB2 := Lib.hid hb2
      clear ho2 hg2 hl2 hba hb2
      go_wp2
      go_roundw
      case rel => exact ⟨q + 1, v2, rfl, by omega, .inl (by omega), by go_num, HO2.out, HB2.out⟩
      case measure => simp [intOf]; omega
    · have t0 : decide ((q : Int) < (l1.length : Int)) = false := by simp; omega
      have HE := Lib.hid (show (l1.drop 2).take (q - 2) = l1.drop 2 from List.take_of_length_le (by rw [List.length_drop]; omega))
      have HL := Lib.hid (show (l1.drop 2).length = q - 2 by rw [List.length_drop]; omega)
      have ho := HO.out
      rw [HE.out, ← HL.out] at ho
      generalize hoe : l1.drop 2 = o at *
      obtain ⟨ad, cap, hve, hcap, hsl⟩ := owns_slice ho rfl
      subst hve
      have HSL := Lib.hid hsl
      have hol : o.length ≤ 1000000 := by rw [HL.out]; omega
      have K52 := Lib.hid (short_any ad cap o wr HSL.out.sl hol hcap)
      clear ho hoe hsl
      go_wp2_with fail
      refine K52.out.mono ?_
      rintro r1 w3 ⟨m, hm, rfl, hnm, hvm, rfl⟩
      have HNM := Lib.hid hnm
      have HVM := Lib.hid hvm
      have K51 := Lib.hid (signed_any gn false ad m cap wr (HN.out.kept HB.out))
      clear hnm hvm K52
      go_wp2_with fail
      refine K51.out.mono ?_
      rintro r2 w4 ⟨rfl, hgr, hrow⟩
      have HF := Lib.hid (show w.grownBy w4 (some gn) ∧ IntAt w4 gn ((val l1 / 18446744073709551616 : Nat) : Int) from by
        refine ⟨grown_trans (grown_below HB.out _) hgr, ?_⟩
        have hlen : (o.take m).length = m := by rw [List.length_take]; exact Nat.min_eq_left hm
        refine IntAt.mk' (b := false) (cap := cap) (o := o.take m) (by rw [hlen]; exact hrow) (sl_awayInt (HN.out.kept HB.out) hgr (by rw [vW_take]; exact sl_take' HSL.out.sl m)) HNM.out (by omega) ?_
        rw [HVM.out, HV.out]; rfl)
      clear hgr hrow K51
      go_wp2
      go_ret
      exact ⟨rfl, HF.out⟩
theorem rsh_any (gn gx : Nat) (z : Int) (w : World) (hn : IsInt w gn) (hx : IntAt w gx z) (bx : z.natAbs < pw 900) :
    Calls Try.prog 41 #[.pointer (some ⟨gn, 0, none⟩), .pointer (some ⟨gx, 0, none⟩), .int .i64 64] w fun e w' => e = .returned (.pointer (some ⟨gn, 0, none⟩)) ∧ w.grownBy w' (some gn) ∧ IntAt w' gn ((z.natAbs / 18446744073709551616 : Nat) : Int) := by
  obtain ⟨b1, a1, c1, l1, o1, e1, v1⟩ := hx.open bx
  rw [v1]
  exact rsh_op gn gx b1 a1 c1 l1 w hn o1
end Go.Proofs.Ytbggibdldadpiaa.n01

