/-
  Layer 1: the document's numbers of any length: shifted by 64 bits.
-/
import Derived.Test.YtdkfaicmdbhonaaWn
import Derived.Test.YtdkfaicmdbhonaaWo
import Derived.Test.YtdkfaicmdbhonaaGen
import Derived.Deep.AppendLies
namespace Go.Proofs.Ytdkfaicmdbhonaa
open Go.RowKit Go.K Go.Words
set_option linter.unusedVariables false
set_option linter.unusedSimpArgs false
theorem val_noughts (l : List (BitVec 32)) : val ([0#32, 0#32] ++ l) = val l * 18446744073709551616 := by
  show (0#32).toNat + 4294967296 * ((0#32).toNat + 4294967296 * val l) = _
  simp
  omega
theorem make_two (w : World) : (Instr.makeSlice 40 (.int .i64 2) (.int .i64 2)).run Try.prog w = .ok (.slice (some ⟨w.heap.size, 0, none⟩) 2 2) (w.alloc (.cells (vW [0#32, 0#32]).toArray 75)) := by
  have := run_make_row' (P := Try.prog) 40 75 (.int .u32 0) 4 Try.underlying40 Try.info75 rfl .i64 .i64 2 (by omega) (by omega) w
  rw [made_zW] at this
  exact this
set_option maxRecDepth 100000 in
set_option maxHeartbeats 2000000 in
theorem lsh_op (gn gx : Nat) (b1 : Bool) (a1 : Option Addr) (c1 : Nat) (l1 : List (BitVec 32)) (w : World) (hn : IsInt w gn) (o1 : Op1 w gx b1 a1 c1 l1) (hne : gn ≠ gx) :
    Calls Try.prog 61 #[.pointer (some ⟨gn, 0, none⟩), .pointer (some ⟨gx, 0, none⟩), .int .i64 64] w fun e w' => e = .returned (.pointer (some ⟨gn, 0, none⟩)) ∧ w.grownBy w' (some gn) ∧ IntAt w' gn (sg b1 (val l1 * 18446744073709551616)) := by
  have hsh := o1.sh
  have HO1 := Lib.hid o1
  have HN := Lib.hid hn
  have hm := make_two w
  have x1 := o1.c1
  clear o1 hn
  go_enter Try.func61, Try.ntmps61
  have hbA : Below w.heap.size w (w.alloc (.cells (vW [0#32, 0#32]).toArray 75)) := (Below.refl _ _).alloc (Nat.le_refl _) _
  have HBA := Lib.hid hbA
  have x1' := below_cell hbA x1
  clear hbA
  go_wp2
  clear x1 x1' hm
  go_loopw [7, 8, 9] (fun v' q i wr => ∃ (k : Nat) (v : Value), v = v' ∧ k ≤ l1.length ∧ i = .int .i64 k ∧ q = .int .u32 0 ∧ wr.ownsRow w.heap.size 75 1 v (2 + k) (vW ([0#32, 0#32] ++ l1.take k)) ∧ Below w.heap.size w wr) (fun _ _ i _ => l1.length - (intOf i).toNat)
  case atStart =>
    exact ⟨0, _, rfl, Nat.zero_le _, rfl, rfl, ⟨by simp [vW], .inr ⟨w.heap.size, 2, _, rfl, Nat.le_refl _, alloc_at rfl, by omega, by decide, by simp [vW], by simp [vW]⟩⟩, HBA.out⟩
  case round =>
    obtain ⟨k, v, hv, hk, rfl, rfl, hown, hb⟩ := hrel
    subst hv
    have HO := Lib.hid hown
    have HB := Lib.hid hb
    have x1 := below_cell hb HO1.out.c1
    have x0 := below_cell hb HO1.out.c0
    clear hown hb
    by_cases hlt : k < l1.length
    · have t0 : decide ((k : Int) < (l1.length : Int)) = true := by simp; omega
      have i1 : (k : Int) < (l1.length : Int) := by omega
      obtain ⟨b, off, ha, hc⟩ := (HO1.out.sl.kept HB.out) (vW_ne hlt)
      have z1 := hc k (by rw [vW_length]; exact hlt)
      rw [vW_get l1 k hlt] at z1
      subst ha
      have HT := Lib.hid (show vW ([0#32, 0#32] ++ l1.take k) ++ [.int .u32 (U32 l1[k])] = vW ([0#32, 0#32] ++ l1.take (k + 1)) by
        show vW ([0#32, 0#32] ++ l1.take k) ++ vW [l1[k]] = _
        rw [← vW_append, List.append_assoc, ← List.take_succ_eq_append_getElem hlt])
      have HS0 := Lib.hid (U32_hi l1[k])
      obtain ⟨x, hx⟩ : ∃ x, x = l1[k] := ⟨_, rfl⟩
      have HX := Lib.hid hx
      rw [← hx] at z1 HT HS0
      clear hx
      have E1 : IntKind.u32.wrap (U32 x) = U32 x := by rw [wrap_U32, U32_ofInt]
      have E2 : bits .or .u32 (U32 x) 0 = U32 x := by
        rw [or_U32, U32_ofInt]; simp
      have E3 : U32 x / 4294967296 = 0 := by have := U32_lo x; have := HS0.out; omega
      clear hc
      have hk9 : k ≤ 900 := by omega
      go_wp2_with (at_builtin; refine wpList_append_sl rfl _ _ 40 rfl w.heap.size 75 (.int .u32 0) 1 4 Try.underlying40 Try.info75 rfl (by decide) v (2 + k) (vW ([0#32, 0#32] ++ l1.take k)) rfl (HO.out.alloc _) (some ⟨wr.heap.size, 0, none⟩) 1 1 [.int .u32 (U32 x)] rfl (fun h => by cases h) rfl (sl_new wr [.int .u32 (U32 x)] 75 (0, 0)) (one_int _ _) ?c1 ?c2 ?c3 ?c4)
      case c1 => unfold maxLen; omega
      case c2 => omega
      case c3 => have := HB.out.size; simp only [World.size_alloc]; omega
      case c4 =>
        intro v2 w2 ho2 hg2
        have HO2 := Lib.hid (show w2.ownsRow w.heap.size 75 1 v2 (2 + (k + 1)) (vW ([0#32, 0#32] ++ l1.take (k + 1))) by rw [← HT.out]; exact ho2)
        have HB2 := Lib.hid (show Below w.heap.size w w2 from (HB.out.alloc HB.out.size _).grown hg2 (HB.out.alloc HB.out.size _).size (fun j hj => (HO.out.lt j hj).1))
        have y1 := below_cell HB2.out HO1.out.c1
        have hgo : w.heap.size ≤ w2.heap.size := HB2.out.size
        clear ho2 hg2
        have z2 : w2.cell? ⟨b, off + k, none⟩ = some (.int .u32 (U32 x)) := by
          obtain ⟨b', off', ha', hc'⟩ := (HO1.out.sl.kept HB2.out) (vW_ne hlt)
          cases ha'
          have := hc' k (by rw [vW_length]; exact hlt)
          rw [vW_get l1 k hlt] at this
          rw [HX.out]
          exact this
        go_wp2
        go_roundw
        case rel => exact ⟨k + 1, v2, rfl, by omega, by go_num, rfl, HO2.out, HB2.out⟩
        case measure => simp [intOf]; omega
    · have t0 : decide ((k : Int) < (l1.length : Int)) = false := by simp; omega
      have hke : k = l1.length := by omega
      subst hke
      have HO := Lib.hid (show wr.ownsRow w.heap.size 75 1 v (2 + l1.length) (vW ([0#32, 0#32] ++ l1)) by have := HO.out; rw [List.take_length] at this; exact this)
      have hgx : gx < w.heap.size := lt_row HO1.out.row
      have HNE := Lib.hid (show some gx ≠ v.ownBlock from fun e => by have := (HO.out.lt _ e.symm).1; omega)
      have HGX := Lib.hid (show gn ≠ gx from hne)
      have hdr : Below wr.heap.size wr wr.drew := below_drawn (Below.refl _ _) _
      have HOd := Lib.hid (owns_below (B := 0) HO.out hdr)
      have HBd := Lib.hid (HB.out.trans (hdr.mono HB.out.size))
      have B1 := Lib.hid (show 2 + l1.length + 1 ≤ maxLen by unfold maxLen; omega)
      have B2 := Lib.hid (show (2 + l1.length + 1) * 4 ≤ 140737488355328 by omega)
      have B3 := Lib.hid (show ([0#32, 0#32] ++ l1 ++ [0#32]).length = 2 + l1.length + 1 by simp; omega)
      have B4 := Lib.hid (show ([0#32, 0#32] ++ l1 ++ [0#32]).length ≤ 1000000 by rw [B3.out]; omega)
      have HV := Lib.hid (show val ([0#32, 0#32] ++ l1 ++ [0#32]) = val l1 * 18446744073709551616 by rw [val_append, val_noughts]; simp [val])
      have HT := Lib.hid (show vW ([0#32, 0#32] ++ l1) ++ [.int .u32 0] = vW ([0#32, 0#32] ++ l1 ++ [0#32]) by rw [vW_append ([0#32, 0#32] ++ l1)]; rfl)
      generalize [0#32, 0#32] ++ l1 ++ [0#32] = o at HT B3 B4 HV
      clear hdr hne
      go_wp2
      go_region_held3 (fun V => V.cell? ⟨gx, 0, none⟩ = some (.bool b1)) (go_keep)
        ((first
          | ((with_reducible refine at_append_step ?_); refine step_append_sl_at (by rfl) _ _ 40 (by rfl) w.heap.size 75 (.int .u32 0) 1 4 Try.underlying40 Try.info75 (by rfl) (by decide) v (2 + l1.length) (vW ([0#32, 0#32] ++ l1)) (by rfl) (HOd.out.alloc _) _ 1 1 [.int .u32 0] (by rfl) (fun h => by cases h) (by rfl) (sl_new _ _ _ _) (one_int _ _) B1.out B2.out (Nat.le_trans HBd.out.size (by simp)) ?_; intro v2 w2 ho2 hg2 hl2
             have hba := HBd.out.alloc HBd.out.size (.cells #[.int .u32 0] 75)
             have y0 := hg2.cell (below_cell ((Below.refl wr.drew.heap.size wr.drew).alloc (Nat.le_refl _) (.cells #[.int .u32 0] 75)) x0) HNE.out
             have hb2 : Below w.heap.size w w2 := hba.grown hg2 hba.size (fun j hj => (HOd.out.lt j hj).1)
             rw [HT.out, ← B3.out] at ho2
             obtain ⟨ad, cap, rfl, hcap, hsl⟩ := owns_slice ho2 rfl)
          | (go_at_call 52; (with_reducible refine (short_any ad cap o w2 hsl.sl B4.out hcap).mono ?_); rintro r1 w3 ⟨m, hm, rfl, hnm, hvm, rfl⟩)
          | (go_at_call 51; (with_reducible refine (signed_any gn b1 ad m cap w2 (HN.out.kept hb2)).mono ?_); rintro r2 w4 ⟨rfl, hgr, hrow⟩; have y1 := hgr.cell y0 (fun e => HGX.out (by injection e with e; exact e.symm)))))
      have HF := Lib.hid (show w.grownBy w4 (some gn) ∧ IntAt w4 gn (sg b1 (val l1 * 18446744073709551616)) from by
        refine ⟨grown_trans (grown_below hb2 _) hgr, ?_⟩
        have hlen : (o.take m).length = m := by rw [List.length_take]; exact Nat.min_eq_left hm
        refine IntAt.mk' (b := b1) (cap := cap) (o := o.take m) (by rw [hlen]; exact hrow) (sl_awayInt (HN.out.kept hb2) hgr (by rw [vW_take]; exact sl_take' hsl.sl m)) hnm (by omega) ?_
        rw [hvm, HV.out]; rfl)
      clear hb2 hgr hrow hnm hvm hm hsl hcap ho2 hg2 hl2 hba
      go_wp2
      go_ret
      exact ⟨rfl, HF.out⟩
theorem lsh_any (gn gx : Nat) (z : Int) (w : World) (hn : IsInt w gn) (hx : IntAt w gx z) (bx : z.natAbs < pw 900) (hne : gn ≠ gx) :
    Calls Try.prog 61 #[.pointer (some ⟨gn, 0, none⟩), .pointer (some ⟨gx, 0, none⟩), .int .i64 64] w fun e w' => e = .returned (.pointer (some ⟨gn, 0, none⟩)) ∧ w.grownBy w' (some gn) ∧ IntAt w' gn (z * 18446744073709551616) := by
  obtain ⟨b1, a1, c1, l1, o1, e1, v1⟩ := hx.open bx
  refine (lsh_op gn gx b1 a1 c1 l1 w hn o1 hne).mono fun e w' ⟨h1, h2, h3⟩ => ⟨h1, h2, ?_⟩
  have : z * 18446744073709551616 = sg b1 (val l1 * 18446744073709551616) := by rw [e1]; unfold sg; split <;> (rw [Int.natCast_mul]; omega)
  rw [this]; exact h3
theorem sl_heap2 {w W : World} {a : Option Addr} {vs : List Value} (h : Sl w a vs) (hh : W.heap = w.heap) : Sl W a vs := sl_heap h hh
theorem low_x (x y : BitVec 32) : IntKind.u32.wrap (U64 (BitVec.ofNat 64 (x.toNat + 4294967296 * y.toNat))) = U32 x := by
  rw [wrap_U32, U64_ofInt32]
  congr 1
  apply BitVec.eq_of_toNat_eq
  rw [BitVec.toNat_setWidth, BitVec.toNat_ofNat]
  have := x.isLt
  have := y.isLt
  omega
set_option maxRecDepth 100000 in
set_option maxHeartbeats 2000000 in
theorem rsh_op (gn gx : Nat) (b1 : Bool) (a1 : Option Addr) (c1 : Nat) (l1 : List (BitVec 32)) (w : World) (hn : IsInt w gn) (o1 : Op1 w gx b1 a1 c1 l1) :
    Calls Try.prog 48 #[.pointer (some ⟨gn, 0, none⟩), .pointer (some ⟨gx, 0, none⟩), .int .i64 64] w fun e w' => e = .returned (.pointer (some ⟨gn, 0, none⟩)) ∧ w.grownBy w' (some gn) ∧ IntAt w' gn ((val l1 / 18446744073709551616 : Nat) : Int) := by
  have hsh := o1.sh
  have HO1 := Lib.hid o1
  have HN := Lib.hid hn
  have HV := Lib.hid (show val (l1.drop 2) = val l1 / 18446744073709551616 by
    by_cases h2 : 2 ≤ l1.length
    · have h := val_split l1 2 h2
      have hl := val_lt (l1.take 2)
      rw [List.length_take, Nat.min_eq_left h2] at hl
      have hp : pw 2 = 18446744073709551616 := rfl
      rw [hp] at h hl
      omega
    · rw [List.drop_of_length_le (by omega)]
      have hl := val_lt l1
      have hp := pw_le (show l1.length ≤ 1 by omega)
      have h1 : pw 1 = 4294967296 := rfl
      show 0 = _
      omega)
  clear o1 hn
  go_enter Try.func48, Try.ntmps48
  go_wp2
  go_loopw [7, 8] (fun v' i wr => ∃ (q : Nat) (v : Value), v = v' ∧ 2 ≤ q ∧ (q ≤ l1.length ∨ q = 2) ∧ i = .int .i64 q ∧ wr.ownsRow w.heap.size 75 1 v (q - 2) (vW ((l1.drop 2).take (q - 2))) ∧ Below w.heap.size w wr) (fun _ i _ => l1.length - (intOf i).toNat)
  case atStart => exact ⟨2, _, rfl, by omega, .inr rfl, rfl, World.ownsRow_nil _ _ _ _, Below.refl _ _⟩
  case round =>
    obtain ⟨q, v, hv, hq2, hq, rfl, hown, hb⟩ := hrel
    subst hv
    have HO := Lib.hid hown
    have HB := Lib.hid hb
    have x1 := below_cell hb HO1.out.c1
    clear hown hb
    by_cases hlt : q < l1.length
    · have t0 : decide ((q : Int) < (l1.length : Int)) = true := by simp; omega
      have E0 : IntKind.i64.wrap ((q : Int) + 1) = ((q + 1 : Nat) : Int) := by rw [IntKind.wrap_i64]; omega
      have W1 := Lib.hid (fun V (h : V.heap = wr.heap) => word_any a1 c1 l1 q V (sl_heap (HO1.out.sl.kept HB.out) h) (by omega) (by omega))
      have W2 := Lib.hid (show ∀ V : World, V.heap = wr.heap → Calls Try.prog 50 #[.slice a1 l1.length c1, .int .i64 ((q : Int) + 1)] V fun e w' => e = .returned (.int .u64 (U32 (at0 l1 (q + 1)))) ∧ V = w' from
        fun V h => word_any a1 c1 l1 (q + 1) V (sl_heap (HO1.out.sl.kept HB.out) h) (by omega) (by omega))
      have hu := u64_x (at0 l1 q) (at0 l1 (q + 1))
      have hlo := low_x (at0 l1 q) (at0 l1 (q + 1))
      have HT := Lib.hid (show vW ((l1.drop 2).take (q - 2)) ++ [.int .u32 (U32 (at0 l1 q))] = vW ((l1.drop 2).take (q + 1 - 2)) by
        have h1 : q - 2 < (l1.drop 2).length := by rw [List.length_drop]; omega
        rw [show q + 1 - 2 = q - 2 + 1 by omega, List.take_succ_eq_append_getElem h1, vW_append, List.getElem_drop]
        rw [at0_lt l1 q hlt]
        congr 3
        simp only [show 2 + (q - 2) = q by omega])
      generalize BitVec.ofNat 64 ((at0 l1 q).toNat + 4294967296 * (at0 l1 (q + 1)).toNat) = R at hu hlo
      generalize at0 l1 (q + 1) = y at hu hlo W2
      generalize at0 l1 q = x at hu hlo HT W1
      have E5 : IntKind.u32.wrap (U64 R / 2 ^ min (IntKind.u64.wrap 0).toNat 64) = U32 x := by
        rw [show min (IntKind.u64.wrap 0).toNat 64 = 0 from rfl, Int.pow_zero, Int.ediv_one]; exact hlo
      have hR0 := U64_lo R
      have hR1 := U64_hi R
      have hdr : Below wr.heap.size wr wr.drew := below_drawn (Below.refl _ _) _
      have HOd := Lib.hid (owns_below (B := 0) HO.out hdr)
      have HBd := Lib.hid (HB.out.trans (hdr.mono HB.out.size))
      have hgx : gx < w.heap.size := lt_row HO1.out.row
      have HNE := Lib.hid (show some gx ≠ v.ownBlock from fun e => by have := (HO.out.lt _ e.symm).1; omega)
      have B1 := Lib.hid (show q - 2 + 1 ≤ maxLen by unfold maxLen; omega)
      have B2 := Lib.hid (show (q - 2 + 1) * 4 ≤ 140737488355328 by omega)
      have XC := Lib.hid (show wr.drew.cell? ⟨gx, 1, none⟩ = some (.slice a1 l1.length c1) from x1)
      clear hdr
      go_wp2
      go_region_held3 (fun V => V.cell? ⟨gx, 1, none⟩ = some (.slice a1 l1.length c1)) (go_keep)
        ((first
          | (go_at_call 50; ((first | (with_reducible refine (W1.out wr.drew rfl).mono ?_) | (with_reducible refine (W2.out wr.drew rfl).mono ?_))); rintro r1 y1 ⟨rfl, rfl⟩)
          | ((with_reducible refine at_append_step ?_); refine step_append_sl_at (by rfl) _ _ 40 (by rfl) w.heap.size 75 (.int .u32 0) 1 4 Try.underlying40 Try.info75 (by rfl) (by decide) v (q - 2) (vW ((l1.drop 2).take (q - 2))) (by rfl) (HOd.out.alloc _) _ 1 1 [.int .u32 (U32 x)] (by rfl) (fun h => by cases h) (by rfl) (sl_new _ _ _ _) (one_int _ _) B1.out B2.out (Nat.le_trans HBd.out.size (by simp)) ?_; intro v2 w2 ho2 hg2 hl2
             have hba := HBd.out
             have y0 : w2.cell? ⟨gx, 1, none⟩ = some (.slice a1 l1.length c1) := hg2.cell (below_cell ((Below.refl _ _).alloc (Nat.le_refl _) _) XC.out) HNE.out
             have hb2 : Below w.heap.size w w2 := Below.grown (Below.alloc hba hba.size _) hg2 (Below.alloc hba hba.size _).size (fun j hj => (HOd.out.lt j hj).1))))
      have HO2 := Lib.hid (show w2.ownsRow w.heap.size 75 1 v2 (q + 1 - 2) (vW ((l1.drop 2).take (q + 1 - 2))) by rw [← HT.out, show q + 1 - 2 = q - 2 + 1 by omega]; exact ho2)
      have HB2 := Lib.hid hb2
      clear ho2 hg2 hl2 hba hb2
      go_wp2
      go_roundw
      case rel => exact ⟨q + 1, v2, rfl, by omega, .inl (by omega), by go_num, HO2.out, HB2.out⟩
      case measure => simp [intOf]; omega
    · have t0 : decide ((q : Int) < (l1.length : Int)) = false := by simp; omega
      have HE := Lib.hid (show (l1.drop 2).take (q - 2) = l1.drop 2 from List.take_of_length_le (by rw [List.length_drop]; omega))
      have HL := Lib.hid (show (l1.drop 2).length = q - 2 by rw [List.length_drop]; omega)
      have ho := HO.out
      rw [HE.out, ← HL.out] at ho
      generalize hoe : l1.drop 2 = o at *
      obtain ⟨ad, cap, hve, hcap, hsl⟩ := owns_slice ho rfl
      subst hve
      have HSL := Lib.hid hsl
      have hol : o.length ≤ 1000000 := by rw [HL.out]; omega
      have K52 := Lib.hid (short_any ad cap o wr HSL.out.sl hol hcap)
      clear ho hoe hsl
      go_wp2_with fail
      refine K52.out.mono ?_
      rintro r1 w3 ⟨m, hm, rfl, hnm, hvm, rfl⟩
      have HNM := Lib.hid hnm
      have HVM := Lib.hid hvm
      have K51 := Lib.hid (signed_any gn false ad m cap wr (HN.out.kept HB.out))
      clear hnm hvm K52
      go_wp2_with fail
      refine K51.out.mono ?_
      rintro r2 w4 ⟨rfl, hgr, hrow⟩
      have HF := Lib.hid (show w.grownBy w4 (some gn) ∧ IntAt w4 gn ((val l1 / 18446744073709551616 : Nat) : Int) from by
        refine ⟨grown_trans (grown_below HB.out _) hgr, ?_⟩
        have hlen : (o.take m).length = m := by rw [List.length_take]; exact Nat.min_eq_left hm
        refine IntAt.mk' (b := false) (cap := cap) (o := o.take m) (by rw [hlen]; exact hrow) (sl_awayInt (HN.out.kept HB.out) hgr (by rw [vW_take]; exact sl_take' HSL.out.sl m)) HNM.out (by omega) ?_
        rw [HVM.out, HV.out]; rfl)
      clear hgr hrow K51
      go_wp2
      go_ret
      exact ⟨rfl, HF.out⟩
theorem rsh_any (gn gx : Nat) (z : Int) (w : World) (hn : IsInt w gn) (hx : IntAt w gx z) (bx : z.natAbs < pw 900) :
    Calls Try.prog 48 #[.pointer (some ⟨gn, 0, none⟩), .pointer (some ⟨gx, 0, none⟩), .int .i64 64] w fun e w' => e = .returned (.pointer (some ⟨gn, 0, none⟩)) ∧ w.grownBy w' (some gn) ∧ IntAt w' gn ((z.natAbs / 18446744073709551616 : Nat) : Int) := by
  obtain ⟨b1, a1, c1, l1, o1, e1, v1⟩ := hx.open bx
  rw [v1]
  exact rsh_op gn gx b1 a1 c1 l1 w hn o1
end Go.Proofs.Ytdkfaicmdbhonaa
