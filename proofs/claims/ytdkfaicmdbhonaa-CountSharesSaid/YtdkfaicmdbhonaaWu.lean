/-
  Layer 1: the document's numbers of any length: divided.
-/
import Derived.Test.YtdkfaicmdbhonaaWt
import Derived.Test.YtdkfaicmdbhonaaPq
import Derived.Test.YtdkfaicmdbhonaaGen
import Derived.Deep.DeepCutAuto
import Derived.Deep.CutBlock
namespace Go.Proofs.Ytdkfaicmdbhonaa
open Go.RowKit Go.K Go.Words
set_option linter.unusedVariables false
set_option linter.unusedSimpArgs false
theorem make_n (n : Nat) (hn : n ≤ 1000) (w : World) : (Instr.makeSlice 40 (.int .i64 n) (.int .i64 n)).run Try.prog w = .ok (.slice (some ⟨w.heap.size, 0, none⟩) n n) (w.alloc (.cells (vW (zW n)).toArray 75)) := by
  have := run_make_row' (P := Try.prog) 40 75 (.int .u32 0) 4 Try.underlying40 Try.info75 rfl .i64 .i64 n (by omega) (by omega) w
  rw [made_zW] at this
  exact this
theorem bl_top_lt (X : Nat) : X / 2 ^ (bl X) = 0 := Nat.div_eq_of_lt ((bl_le X (bl X)).1 (Nat.le_refl _))
theorem rowW_below {W W' : World} {g : Nat} {l : List (BitVec 32)} (h : rowW W g l) (hb : Below W.heap.size W W') : rowW W' g l := row_kept h hb
structure QI (w : World) (lx : List (BitVec 32)) (Y k : Nat) (ad : Option Addr) (cap : Nat) (R Q : List (BitVec 32)) (W : World) : Prop where
  bel : Below w.heap.size w W
  row : rowW W w.heap.size Q
  len : Q.length = lx.length
  q : val Q = val lx / 2 ^ k / Y * 2 ^ k
  sl : Sl W ad (vW R)
  nm : norm R
  le : R.length ≤ cap
  r : val R = val lx / 2 ^ k % Y
set_option maxRecDepth 100000 in
set_option maxHeartbeats 4000000 in
theorem quorem_op (gn gx gy gr : Nat) (a1 a2 : Option Addr) (c1 c2 : Nat) (lx ly : List (BitVec 32)) (w : World) (hn : IsInt w gn) (hr : IsInt w gr) (o1 : Op1 w gx false a1 c1 lx) (o2 : Op1 w gy false a2 c2 ly) (hxi : IntAt w gx (val lx)) (hY : 0 < val ly)
    (hX9 : val lx < pw 900) (hY9 : val ly < pw 900) (h1 : gn ≠ gr) :
    Calls Try.prog 58 #[.pointer (some ⟨gn, 0, none⟩), .pointer (some ⟨gx, 0, none⟩), .pointer (some ⟨gy, 0, none⟩), .pointer (some ⟨gr, 0, none⟩)] w fun e w' => e = .returned (.tuple #[.pointer (some ⟨gn, 0, none⟩), .pointer (some ⟨gr, 0, none⟩)]) ∧
      Only (fun b => b = gn ∨ b = gr) w w' ∧ IntAt w' gn ((val lx / val ly : Nat) : Int) ∧ IntAt w' gr ((val lx % val ly : Nat) : Int) := by
  have hshx := o1.sh
  have hshy := o2.sh
  have HO1 := Lib.hid o1
  have HO2 := Lib.hid o2
  have HN := Lib.hid hn
  have HR := Lib.hid hr
  have HY := Lib.hid hY
  have HY9 := Lib.hid hY9
  have HNE := Lib.hid h1
  have hmk := make_n lx.length (by omega)
  have x1 := o1.c1
  have hbA : Below w.heap.size w (w.alloc (.cells (vW (zW lx.length)).toArray 75)) := (Below.refl _ _).alloc (Nat.le_refl _) _
  have HBA := Lib.hid hbA
  have K39 := Lib.hid (bitlen_any gx (val lx) (w.alloc (.cells (vW (zW lx.length)).toArray 75)) (hxi.kept hbA) (by rw [Int.natAbs_natCast]; exact hX9))
  rw [Int.natAbs_natCast] at K39
  have HBLB := Lib.hid (show bl (val lx) ≤ 32 * lx.length from (bl_le _ _).2 (by have := val_lt lx; rw [pw_eq] at this; exact this))
  have hblb : bl (val lx) ≤ 28800 := by have := HBLB.out; omega
  clear o1 o2 hn hr hxi hY hX9 hY9 h1 hbA
  go_enter Try.func58, Try.ntmps58
  go_wp2_with fail
  refine K39.out.mono ?_
  rintro r0 w1 ⟨rfl, hq⟩
  have HQ := Lib.hid hq
  clear hq K39 x1 hmk
  have hbl0 : 0 ≤ bl (val lx) := Nat.zero_le _
  go_wp2
  have HRW := Lib.hid (show rowW w1 w.heap.size (zW lx.length) by
    have h : rowW (w.alloc (.cells (vW (zW lx.length)).toArray 75)) w.heap.size (zW lx.length) := alloc_at rfl
    unfold rowW at h ⊢
    rw [HQ.out.heap]; exact h)
  have HST := Lib.hid (show QI w lx (val ly) (bl (val lx)) none 0 [] (zW lx.length) w1 from
    ⟨HBA.out.trans (HQ.out.below _), HRW.out, zW_length _, by rw [val_zW, bl_top_lt, Nat.zero_div, Nat.zero_mul], Sl.nil _ _, norm_nil, Nat.le_refl _, by rw [bl_top_lt, Nat.zero_mod]; rfl⟩)
  go_loopw [11, 12] (fun s11 s12 wr => ∃ (k : Nat) (z : Int) (ad : Option Addr) (cap : Nat) (R Q : List (BitVec 32)), s11 = .slice ad R.length cap ∧ s12 = .int .i64 z ∧ z = (k : Int) - 1 ∧ k ≤ bl (val lx) ∧ QI w lx (val ly) k ad cap R Q wr) (fun _ s12 _ => (intOf s12 + 1).toNat)
  case atStart => exact ⟨bl (val lx), _, none, 0, [], zW lx.length, rfl, rfl, by omega, Nat.le_refl _, HST.out⟩
  case round =>
    clear HST
    obtain ⟨k, z, ad, cap, R, Q, rfl, rfl, hz, hk, hi⟩ := hrel
    have HI := Lib.hid hi
    clear hi
    have HRL := Lib.hid (show R.length ≤ 900 from len_le R HI.out.nm 900 (by rw [HI.out.r]; exact Nat.lt_trans (Nat.mod_lt _ HY.out) HY9.out))
    by_cases hk0 : k = 0
    case neg =>
      obtain ⟨i, rfl⟩ : ∃ i, k = i + 1 := ⟨k - 1, by omega⟩
      obtain rfl : z = (i : Int) := by omega
      have t0 : decide ((i : Int) ≥ 0) = true := decide_eq_true (by omega)
      have hi9 : (i : Int) ≤ 28800 := by omega
      clear hz hk0
      have K54 := Lib.hid (plus_any ad ad cap cap R R wr HI.out.sl HI.out.sl (by have := HRL.out; omega) (by have := HRL.out; omega))
      go_wp2_with fail
      refine K54.out.mono ?_
      rintro r0 w2 ⟨ad2, cap2, R2, rfl, hc2, hn2, hv2, hs2, hb2⟩
      have HR2 := Lib.hid (And.intro hn2 (And.intro hv2 (And.intro hs2.sl hc2)))
      have HB2 := Lib.hid (HI.out.bel.trans (hb2.mono HI.out.bel.size))
      have HQ2 := Lib.hid (rowW_below HI.out.row hb2)
      clear hc2 hn2 hv2 hs2 hb2 K54
      have x1 := below_cell HB2.out HO1.out.c1
      have hjl : i / 32 < lx.length := by have := HBLB.out; omega
      have hr32 : i % 32 < 32 := Nat.mod_lt _ (by omega)
      have hij : 32 * (i / 32) + i % 32 = i := Nat.div_add_mod i 32
      have HBIT := Lib.hid (bit_word lx (i / 32) (i % 32) hjl hr32)
      have hdv : (i : Int) / 32 = ((i / 32 : Nat) : Int) := by omega
      have hmd : (i : Int) % 32 = ((i % 32 : Nat) : Int) := by omega
      rw [hij] at HBIT
      have HIJ := Lib.hid hij
      clear hij
      have HJQ := Lib.hid (show i / 32 < Q.length by rw [HI.out.len]; exact hjl)
      generalize i / 32 = j at *
      generalize i % 32 = r at *
      obtain ⟨bx, ox, hax, hcx⟩ := (HO1.out.sl.kept HB2.out) (vW_ne hjl)
      have z1 := hcx j (by rw [vW_length]; exact hjl)
      rw [vW_get lx j hjl] at z1
      rw [hax] at x1
      have hji : (j : Int) < (lx.length : Int) := by omega
      have HBI := Lib.hid (show (U32 lx[j] / 2 ^ r).tmod 2 = ((val lx / 2 ^ i % 2 : Nat) : Int) by
        have e : U32 lx[j] / 2 ^ r = ((lx[j].toNat / 2 ^ r : Nat) : Int) := by unfold U32; rw [Int.natCast_ediv, Int.natCast_pow]; rfl
        rw [e, HBIT.out, show (2 : Int) = ((2 : Nat) : Int) from rfl, ← Int.ofNat_tmod])
      have hb2lt : val lx / 2 ^ i % 2 < 2 := Nat.mod_lt _ (by omega)
      clear hcx hax
      have HRV := Lib.hid HI.out.r
      have hRY : val lx / 2 ^ (i + 1) % val ly < val ly := Nat.mod_lt _ HY.out
      have HRY := Lib.hid hRY
      have HR2L := Lib.hid (show R2.length ≤ 901 from len_le R2 HR2.out.1 901 (by
        rw [HR2.out.2.1, HRV.out]
        have h9 := HY9.out
        have h8 : pw 901 = pw 900 * 4294967296 := by rw [pw_add 900 1]; rfl
        omega))
      clear hRY
      go_upto_if 42 with fail
      go_cut [11] (fun s wc => ∃ (ad3 : Option Addr) (cap3 : Nat) (o : List (BitVec 32)), s = .slice ad3 o.length cap3 ∧ o.length ≤ cap3 ∧ norm o ∧ val o = 2 * val R + val lx / 2 ^ i % 2 ∧ Sl wc ad3 (vW o) ∧ Below w2.heap.size w2 wc)
      case first =>
        generalize val lx / 2 ^ i % 2 = bt at *
        generalize (U32 lx[j] / 2 ^ r).tmod 2 = bti at *
        have hbe := HBI.out
        by_cases hb1 : bt = 1
        · have u1 : (bti == 1) = true := by rw [hbe, hb1]; rfl
          have K54 := Lib.hid (plus_any ad2 (some ⟨w2.heap.size, 0, none⟩) cap2 1 R2 [1#32] (w2.alloc (.cells #[.int .u32 1] 75)) (HR2.out.2.2.1.kept ((Below.refl _ _).alloc (Nat.le_refl _) _)) (sl_new w2 [.int .u32 1] 75 (0, 0)) (by have := HR2L.out; omega) (by simp))
          clear hbe hb2lt
          go_wp2_with fail
          refine K54.out.mono ?_
          rintro r0 w3 ⟨ad3, cap3, o, rfl, hc3, hn3, hv3, hs3, hb3⟩
          have HE := Lib.hid (show Below w2.heap.size w2 w3 from ((Below.refl w2.heap.size w2).alloc (Nat.le_refl _) (.cells #[.int .u32 1] 75)).trans (hb3.mono (by simp)))
          have HV3 := Lib.hid (show val o = 2 * val R + bt by rw [hv3, HR2.out.2.1, hb1]; show _ + ((1#32).toNat + 4294967296 * 0) = _; simp; omega)
          have HS3 := Lib.hid hs3.sl
          have HN3 := Lib.hid hn3
          clear hv3 hs3 hb3 hn3 K54
          go_wp2
          go_meet
          exact ⟨ad3, cap3, o, rfl, hc3, HN3.out, HV3.out, HS3.out, HE.out⟩
        · have u1 : (bti == 1) = false := by
            rw [hbe]; exact beq_eq_false_iff_ne.2 (by omega)
          have HV3 := Lib.hid (show val R2 = 2 * val R + bt by rw [HR2.out.2.1]; omega)
          clear hbe hb2lt
          go_wp2
          go_meet
          exact ⟨ad2, cap2, R2, rfl, HR2.out.2.2.2, HR2.out.1, HV3.out, HR2.out.2.2.1, Below.refl _ _⟩
      case rest =>
      obtain ⟨ad3, cap3, o, rfl, hc3, hn3, hv3, hs3, hb3⟩ := hcut
      have HV3 := Lib.hid hv3
      have HS3 := Lib.hid hs3
      have HN3 := Lib.hid hn3
      have HB3 := Lib.hid (HB2.out.trans (hb3.mono HB2.out.size))
      have HQ3 := Lib.hid (rowW_below HQ2.out hb3)
      have HOL := Lib.hid (show o.length ≤ 901 from len_le o hn3 901 (by
        rw [hv3, HRV.out]
        have h9 := HY9.out
        have h8 : pw 901 = pw 900 * 4294967296 := by rw [pw_add 900 1]; rfl
        have h7 := HRY.out
        omega))
      have y1 := below_cell HB3.out HO2.out.c1
      have K55 := Lib.hid (against_any ad3 a2 cap3 c2 o ly wc HS3.out (HO2.out.sl.kept HB3.out) (by have := HOL.out; omega) (by omega) HN3.out HO2.out.nm)
      clear hv3 hs3 hn3 hb3 x1 z1 HBI HBIT hb2lt
      by_cases hge : val ly ≤ val o
      · have HC := Lib.hid (show 0 ≤ cmpZ (val o) (val ly) by unfold cmpZ; rw [if_neg (by omega)]; split <;> omega)
        generalize hcz : cmpZ (val o) (val ly) = cz at *
        have u2 : decide (cz ≥ 0) = true := decide_eq_true HC.out
        have HGE := Lib.hid hge
        clear hcz hge
        go_wp2_with fail
        refine K55.out.mono ?_
        rintro r0 w4 ⟨rfl, hq4⟩
        have HQ4 := Lib.hid hq4
        have HB4 := Lib.hid (HB3.out.trans (hq4.below _))
        have HRW4 := Lib.hid (rowW_below HQ3.out (hq4.below _))
        have y2 := below_cell HB4.out HO2.out.c1
        have K56 := Lib.hid (minus_any ad3 a2 cap3 c2 o ly w4 (hq4.sl HS3.out) (HO2.out.sl.kept HB4.out) (by have := HOL.out; omega) (by omega) (len_mono ly o HO2.out.nm HGE.out) HGE.out)
        clear hq4 K55 y1
        go_wp2_with fail
        refine K56.out.mono ?_
        rintro r0 w5 ⟨ad5, cap5, R5, rfl, hc5, hn5, hv5, hs5, hb5⟩
        have HRW5 := Lib.hid (rowW_below HRW4.out hb5)
        have HB5 := Lib.hid (HB4.out.trans (hb5.mono HB4.out.size))
        have HR5 := Lib.hid (And.intro hn5 (And.intro hv5 (And.intro hs5.sl hc5)))
        have hjq : j < Q.length := HJQ.out
        have HS5 := Lib.hid hs5
        have q1 := HRW5.out.cell j hjq
        have HSETV := Lib.hid (set_word Q j r (val lx / 2 ^ (i + 1) / val ly) hjq hr32 (by rw [HIJ.out]; exact HI.out.q))
        rw [HIJ.out] at HSETV
        obtain ⟨qj, hqj⟩ : ∃ qj, qj = Q[j] := ⟨_, rfl⟩
        rw [← hqj] at q1 HSETV
        clear hqj
        have f1 := frozen_of_row _ _ j _ _ HRW5.out
        have e1 : IntKind.u32.wrap (2 ^ r) = U32 (1#32 <<< r) := by
          rw [wrap_U32]
          congr 1
          have := shl_U32 (1#32) r
          rw [show U32 (1#32) = 1 from rfl, Int.one_mul] at this
          rw [← this]
          simp
        have e2 : bits .or .u32 (U32 qj) (U32 (1#32 <<< r)) = U32 (qj ||| 1#32 <<< r) := by
          rw [or_U32, U32_ofInt, U32_ofInt]
        have HFIN := Lib.hid (fun W (hW : W = w5.setCell ⟨w.heap.size, j, none⟩ (.int .u32 (U32 (qj ||| 1#32 <<< r)))) => (show QI w lx (val ly) i ad5 cap5 R5 (Q.set j (qj ||| 1#32 <<< r)) W from by
          subst hW
          have hg := HGE.out
          rw [HV3.out, HRV.out] at hg
          obtain ⟨s1, s2⟩ := step_ge HY.out hg
          have hrw := HRW5.out.set j (qj ||| 1#32 <<< r)
          refine ⟨HB5.out.setCell (Nat.le_refl _) _, hrw, by rw [List.length_set]; exact HI.out.len, ?_, ?_, HR5.out.1, HR5.out.2.2.2, ?_⟩
          · rw [HSETV.out, HI.out.q, s2, Nat.pow_succ, Nat.add_mul, Nat.one_mul]
            congr 1
            rw [Nat.mul_comm (2 ^ i) 2, ← Nat.mul_assoc, Nat.mul_comm _ 2]
          · intro hne
            obtain ⟨b, off, he, hc⟩ := HS5.out.sl hne
            refine ⟨b, off, he, fun t ht => ?_⟩
            have h := hc t ht
            rw [List.getElem?_eq_getElem ht] at h ⊢
            have hlt : w4.heap.size ≤ b := HS5.out.ge _ he
            have hwl : w.heap.size < w4.heap.size := lt_row HRW4.out
            exact (grown_set (grown_refl w5 (some w.heap.size)) j _).cell h (fun e => by have e2 : b = w.heap.size := Option.some.inj e; omega)
          · rw [HR5.out.2.1, HV3.out, HRV.out, s1]))
        clear hc5 hn5 hv5 hs5 hb5 K56 y2
        go_wp2
        go_roundw
        case rel => exact ⟨i, (i : Int) - 1, ad5, cap5, R5, _, rfl, rfl, rfl, by omega, HFIN.out _ rfl⟩
        case measure => simp [intOf] <;> omega
      · have HC := Lib.hid (show cmpZ (val o) (val ly) = -1 by unfold cmpZ; rw [if_pos (by omega)])
        rw [HC.out] at K55
        have HGE := Lib.hid hge
        clear hge
        go_wp2_with fail
        refine K55.out.mono ?_
        rintro r0 w4 ⟨rfl, hq4⟩
        have HFIN := Lib.hid (show QI w lx (val ly) i ad3 cap3 o Q w4 from by
          have hg := HGE.out
          rw [HV3.out, HRV.out] at hg
          obtain ⟨s1, s2⟩ := step_lt HY.out (Nat.lt_of_not_le hg)
          refine ⟨HB3.out.trans (hq4.below _), rowW_below HQ3.out (hq4.below _), HI.out.len, ?_, hq4.sl HS3.out, HN3.out, hc3, ?_⟩
          · rw [HI.out.q, s2, Nat.pow_succ, Nat.mul_comm (2 ^ i) 2, ← Nat.mul_assoc, Nat.mul_comm _ 2]
          · rw [HV3.out, HRV.out, s1])
        clear hq4 K55 y1
        go_wp2
        go_roundw
        case rel => exact ⟨i, (i : Int) - 1, ad3, cap3, o, Q, rfl, rfl, rfl, by omega, HFIN.out⟩
        case measure => simp [intOf] <;> omega
    case pos =>
      subst hk0
      obtain rfl : z = -1 := by omega
      have t0 : decide ((-1 : Int) ≥ 0) = false := by decide
      have K51 := Lib.hid (signed_any gr false ad R.length cap wr (HR.out.kept HI.out.bel))
      clear hz
      go_wp2_with fail
      refine K51.out.mono ?_
      rintro r0 w2 ⟨rfl, hg2, hrow2⟩
      have hgr : gr < w.heap.size := by obtain ⟨_, _, _, _, h⟩ := HR.out; exact lt_row h
      have HI2 := Lib.hid (show IntAt w2 gr ((val lx % val ly : Nat) : Int) from by
        have hr := HI.out.r
        rw [Nat.pow_zero, Nat.div_one] at hr
        exact IntAt.mk' (b := false) (cap := cap) (o := R) hrow2 (sl_awayInt (HR.out.kept HI.out.bel) hg2 HI.out.sl) HI.out.nm HI.out.le (by rw [hr]; rfl))
      have HN2 := Lib.hid (show IsInt w2 gn from (HN.out.kept HI.out.bel).away hg2 (Ne.symm HNE.out))
      have HQ2 := Lib.hid (show rowW w2 w.heap.size Q from row_past HI.out.row hg2 (fun e => by have e2 : w.heap.size = gr := Option.some.inj e; omega))
      have HO2' := Lib.hid (show Only (fun b => b = gn ∨ b = gr) w w2 from (Only.of_below HI.out.bel).trans (Only.of_grown (S := fun b => b = gr) hg2 (fun j hj => by cases hj; rfl)) (fun b hb => .inl (.inr hb)))
      have K52 := Lib.hid (short_at (some ⟨w.heap.size, 0, none⟩) lx.length lx.length Q w2 HI.out.len HQ2.out.sl (by omega) (Nat.le_refl _))
      clear hg2 hrow2 K51
      go_wp2_with fail
      refine K52.out.mono ?_
      rintro r0 w3 ⟨m, hm, rfl, hnm, hvm, rfl⟩
      have HM := Lib.hid (And.intro hm (And.intro hnm hvm))
      have K51 := Lib.hid (signed_any gn false (some ⟨w.heap.size, 0, none⟩) m lx.length w2 HN2.out)
      clear hm hnm hvm K52
      go_wp2_with fail
      refine K51.out.mono ?_
      rintro r0 w4 ⟨rfl, hg4, hrow4⟩
      have HF := Lib.hid (show Only (fun b => b = gn ∨ b = gr) w w4 ∧ IntAt w4 gn ((val lx / val ly : Nat) : Int) ∧ IntAt w4 gr ((val lx % val ly : Nat) : Int) from by
        have hl := HI.out.len
        have hm := HM.out.1
        refine ⟨HO2'.out.trans (Only.of_grown (S := fun b => b = gn) hg4 (fun j hj => by cases hj; rfl)) (fun b hb => .inl (.inl hb)), ?_, HI2.out.away HN2.out hg4 HNE.out⟩
        have hlen : (Q.take m).length = m := by rw [List.length_take]; exact Nat.min_eq_left (by omega)
        refine IntAt.mk' (b := false) (cap := lx.length) (o := Q.take m) (by rw [hlen]; exact hrow4) (sl_awayInt HN2.out hg4 (by rw [vW_take]; exact sl_take' HQ2.out.sl m)) HM.out.2.1 (by omega) ?_
        have hq := HI.out.q
        rw [Nat.pow_zero, Nat.div_one, Nat.mul_one] at hq
        rw [HM.out.2.2, hq]; rfl)
      clear hg4 hrow4 K51
      go_wp2
      go_ret2
      exact ⟨rfl, HF.out⟩
theorem quorem_any (gn gx gy gr : Nat) (X Y : Nat) (w : World) (hn : IsInt w gn) (hr : IsInt w gr) (hx : IntAt w gx (X : Int)) (hy : IntAt w gy (Y : Int)) (hY : 0 < Y) (hX9 : X < pw 900) (hY9 : Y < pw 900) (h1 : gn ≠ gr) :
    Calls Try.prog 58 #[.pointer (some ⟨gn, 0, none⟩), .pointer (some ⟨gx, 0, none⟩), .pointer (some ⟨gy, 0, none⟩), .pointer (some ⟨gr, 0, none⟩)] w fun e w' => e = .returned (.tuple #[.pointer (some ⟨gn, 0, none⟩), .pointer (some ⟨gr, 0, none⟩)]) ∧
      Only (fun b => b = gn ∨ b = gr) w w' ∧ IntAt w' gn ((X / Y : Nat) : Int) ∧ IntAt w' gr ((X % Y : Nat) : Int) := by
  have key : ∀ (g N : Nat), IntAt w g (N : Int) → N < pw 900 → ∃ a c l, Op1 w g false a c l ∧ N = val l := by
    intro g N h h9
    obtain ⟨b, a, c, l, row, sl, n, le, e, q⟩ := h
    cases b with
    | false =>
      have : N = val l := by
        have e2 : (N : Int) = (val l : Int) := by simpa using e
        exact Int.ofNat.inj e2
      exact ⟨a, c, l, ⟨row, sl, n, le, len_le l n 900 (by rw [← this]; exact h9)⟩, this⟩
    | true =>
      exfalso
      have h0 := val_zero l n
      have hl := q rfl
      have : val l ≠ 0 := fun h => hl (h0.1 h)
      simp at e
      omega
  obtain ⟨a1, c1, lx, o1, e1⟩ := key gx X hx hX9
  obtain ⟨a2, c2, ly, o2, e2⟩ := key gy Y hy hY9
  subst e1 e2
  exact quorem_op gn gx gy gr a1 a2 c1 c2 lx ly w hn hr o1 o2 hx hY hX9 hY9 h1
end Go.Proofs.Ytdkfaicmdbhonaa
