/-
  Proved: CountSums answers true for every list: the sum is the document's, the list stays, and so again when its memory holds other numbers. No condition.
-/
import Derived.Test.YtdkfaicmdbhonaaOa
namespace Go.Proofs.Ytdkfaicmdbhonaa.lawCountSums
open Go.ChangeShapes Go.WideShapes Go.ChangeAt Go.RowKit Go.K
set_option linter.unusedVariables false
set_option linter.unusedSimpArgs false

theorem half_q (x : BitVec 64) : IntKind.u64.wrap ((U64 x).tdiv 2) = U64 (x >>> 1) := by
  rw [tdiv_U64_2, wrap_U64, U64_ofInt]
theorem half_q' (x : BitVec 64) : U64 x / 2 = U64 (x >>> 1) := shr_U64_1 x
theorem addk_q (x : BitVec 64) (k : Nat) : IntKind.u64.wrap (U64 x + (k : Int)) = U64 (x + BitVec.ofNat 64 k) := by
  rw [wrap_U64, ofInt_add64, U64_ofInt, ofInt_nat64]
set_option maxRecDepth 100000 in
set_option maxHeartbeats 1000000 in
theorem walk (a : Option Addr) (c : Nat) (l : List (BitVec 64)) (w : World) (hs : Sl w a (vQ l)) (hn : l.length ≤ c) (hm : c ≤ 17592186043904) (hz : a = none → l.length = 0 ∧ c = 0) :
    Calls Try.prog 3 #[.slice a l.length c] w fun e w' => e = .returned (.bool true) ∧ Below w.heap.size w w' := by
  have HA := Lib.hid hs
  have HZ := Lib.hid hz
  clear hs hz
  have hn2 : (l.length : Int) ≤ 17592186043904 := by omega
  go_enter Try.func3, Try.ntmps3
  go_wp2_with fail
  refine (lent_any a c l _ (by omega) HZ.out HA.out).mono ?_
  rintro e w1 ⟨g, cap, rfl, hg, hl, hb1⟩
  have HL := Lib.hid hl
  have HB1 := Lib.hid hb1
  clear hl hb1
  go_wp2
  go_loopw [4] (fun t wr => ∃ (j : Nat) (l' : List (BitVec 64)), j ≤ 2 ∧ t = .int .i64 j ∧ l'.length = l.length ∧ Lent wr l' g cap ∧ Below w.heap.size w wr) (fun t _ => 2 - (intOf t).toNat)
  case atStart => exact ⟨0, l, by omega, rfl, rfl, HL.out, HB1.out⟩
  case round =>
    clear HL HB1
    obtain ⟨j, l', hj, rfl, hl', hlt', hbl⟩ := hrel
    have HL := Lib.hid hlt'
    have HB := Lib.hid hbl
    have HN := Lib.hid hl'
    by_cases hj2 : j < 2
    · have t0 : decide ((j : Int) < 2) = true := by simp; omega
      clear hlt' hbl hl'
      go_wp2_with (at_builtin; refine wpList_append_sl rfl _ _ 22 rfl wr.heap.size 24 (.int .u64 0) 1 8 Try.underlying22 Try.info24 rfl (by decide) _ 0 [] rfl (World.ownsRow_nil _ _ _ _) (some ⟨g, 0, none⟩) l.length cap (vQ l') rfl (fun h => by cases h) (by rw [vQ_length, HN.out]; omega) HL.out.sl (oneCell_vQ l') ?c1 ?c2 (Nat.le_refl _) ?c3)
      case c1 => unfold maxLen; omega
      case c2 => omega
      case c3 =>
        intro v2 w2 hown hgr
        have hB2 : Below wr.heap.size wr w2 := (Below.refl _ _).grown hgr (Nat.le_refl _) (fun k hk => by cases hk)
        obtain ⟨ad, cp, rfl, hcp, hsl⟩ : ∃ ad cp, v2 = .slice ad l.length cp ∧ l.length ≤ cp ∧ Sl w2 ad (vQ l') := by
          rcases hown.2 with ⟨hv, h0⟩ | ⟨g2, cap2, cur, hv, hg2, hh, hnc, hcm, hcs, htk⟩
          · refine ⟨none, 0, ?_, by omega, ?_⟩
            · rw [hv]; congr 1 <;> omega
            · have : l' = [] := List.eq_nil_of_length_eq_zero (by rw [HN.out]; omega)
              rw [this]; exact Sl.nil _ _
          · subst hv
            exact ⟨_, cap2, by congr 1 <;> omega, by omega, by simpa using sl_of_owns hown⟩
        have HS := Lib.hid hsl
        have HL2 := Lib.hid (HL.out.kept hB2)
        have HB2 := Lib.hid (HB.out.trans (hB2.mono HB.out.size))
        clear hown hgr hB2 hsl HL HB
        have HC1 := Lib.hid (csum_any (some ⟨g, 0, none⟩) cap l' w2 (by unfold maxLen; rw [HN.out]; omega) HL2.out.sl)
        rw [HN.out] at HC1
        have HC2 := Lib.hid (fun W (hW : Sl W ad (vQ l')) => rsum_any ad cp l' W (by rw [HN.out]; omega) hW)
        rw [HN.out] at HC2
        have HC3 := Lib.hid (fun W (hL : Lent W l' g cap) (hW : Sl W ad (vQ l')) => kept_any g cap ad cp l' W (by rw [HN.out]; omega) hL hW)
        rw [HN.out] at HC3
        go_wp2_with fail
        refine HC1.out.mono ?_
        rintro e w3 ⟨rfl, rfl⟩
        obtain ⟨z, q, hzq⟩ : ∃ (z q : Int), fitV (sumL l') = .tuple #[.int .u64 z, .int .i64 q] := by
          by_cases h : Go.Proofs.Ytdkfaicmdbhonaa.fits (sumL l')
          · exact ⟨_, _, fitV_yes h⟩
          · exact ⟨_, _, fitV_no h⟩
        rw [hzq] at HC2 ⊢
        have e1 : (z != z) = false := by simp
        have e2 : (q != q) = false := by simp
        clear hzq HC1
        go_wp2_with fail
        refine (HC2.out _ HS.out).mono ?_
        rintro e w4 ⟨rfl, hb4⟩
        have HL4 := Lib.hid (HL2.out.kept hb4)
        have HS4 := Lib.hid (HS.out.kept hb4)
        have HB4 := Lib.hid (HB2.out.trans (hb4.mono HB2.out.size))
        clear hb4 HL2 HS HB2 HC2
        go_wp2_with fail
        refine (HC3.out _ HL4.out HS4.out).mono ?_
        rintro e w5 ⟨rfl, hq5⟩
        have HL5 := Lib.hid (HL4.out.kept (hq5.below _))
        have HB5 := Lib.hid (HB4.out.trans (hq5.below _))
        clear hq5 HL4 HS4 HB4 HC3
        go_wp2
        obtain ⟨wo, rfl⟩ : ∃ wo : World, wo = wr := ⟨_, rfl⟩
        go_loopw [10] (fun i wq => ∃ (k : Nat) (m : List (BitVec 64)), k ≤ l.length ∧ i = .int .i64 k ∧ m.length = l.length ∧ Lent wq m g cap ∧ Below w.heap.size w wq) (fun i _ => l.length - (intOf i).toNat)
        case atStart => exact ⟨0, l', by omega, rfl, HN.out, HL5.out, HB5.out⟩
        case round =>
          clear HL5 HB5 HN
          obtain ⟨k, m, hk, rfl, hm', hlm, hbm⟩ := hrel
          have HM := Lib.hid hm'
          have HL := Lib.hid hlm
          have HB := Lib.hid hbm
          by_cases hkl : k < l.length
          · have t1 : decide ((k : Int) < (l.length : Int)) = true := by simp; omega
            have i1 : (k : Int) < (l.length : Int) := by omega
            have hkm : k < m.length := by omega
            obtain ⟨b2, o2, he, hcell⟩ := hlm.sl (vQ_ne hkm)
            cases he
            have h1 := hcell k (by rw [vQ_length]; exact hkm)
            rw [vQ_get m k hkm, Nat.zero_add] at h1
            obtain ⟨cur, hcur, _⟩ := hlm
            have f1 := frozen_of_row _ _ k _ _ hcur
            have HX := Lib.hid (HL.out.set k hkm (m[k] >>> 1 + BitVec.ofNat 64 k))
            have e3 := half_q m[k]
            have e3' := half_q' m[k]
            have e4 := addk_q (m[k] >>> 1) k
            clear hm' hbm hcell hcur
            generalize m[k] = x at *
            go_wp2
            go_roundw
            case rel => exact ⟨k + 1, _, by omega, by go_num, by rw [List.length_set]; exact HM.out, HX.out, HB.out.setCell (by have := hg; omega) _⟩
            case measure => simp [intOf]; omega
          · have t1 : decide ((k : Int) < (l.length : Int)) = false := by simp; omega
            clear hm' hbm hlm
            go_wp2
            go_roundw
            case rel => exact ⟨j + 1, m, by omega, by go_num, HM.out, HL.out, HB.out⟩
            case measure => simp [intOf]; omega
    · have t0 : decide ((j : Int) < 2) = false := by simp; omega
      clear hlt' hl'
      go_wp2
      go_ret
      exact ⟨rfl, hbl⟩
theorem own : ownKnob Try.prog.godebug = none := by kernel_rfl
theorem laidOut : laidOutB Try.prog = true := by kernel_rfl
set_option maxRecDepth 100000 in
theorem lifted (os : Os) (started : os.Started) (H : Type) (enc : TypeId × Value → H) :
    ReturnsInHanded {} Try.checked os 3 .any (Rows.countSumsSpec.pre6 enc Try.prog Try.f3 Rows.countSumsRow.domain false) (Rows.countSumsSpec.post enc Try.prog Try.f3 false true false false) := by
  refine returnsInHanded_of_change_sized (C := Try.checked) own started (by kernel_rfl) Try.func3
    (ChangeSpec.witness6 (enc := enc) (C := Try.checked) false ⟨#[], #[.slice none 0 0], []⟩ 8 (by kernel_rfl) (by kernel_rfl) (by kernel_rfl) (by kernel_rfl)) ?_
  intro W base args ds gs before hval0 hW hcnd hsz0 _
  have hsz : (DataW.weightsEach Try.prog (Try.f3.params.toList ++ Rows.countSumsSpec.plain.varTypes Try.prog) (ds ++ gs)).all (· ≤ reachBytes) = true := hsz0
  clear hsz0
  have hval : ∀ (j : Nat) t v, Try.f3.params[j]? = some t → args[j]? = some v → Value.okWide Try.prog W .any base t v := hval0
  have hW' := hW
  obtain ⟨p, q, hA0, hV, rfl, hfz, hnd⟩ := hW
  have hA : DataW.TrodAll enc Try.prog W 0 (fun _ => true) true Try.f3.params.toList args.toList ds p := hA0
  rw [Try.params3] at hA hval hsz
  obtain ⟨v0, vs0, d0, ds0, p0, q0, hargs, rfl, rfl, h0, r0⟩ := trodAll_cons hA
  obtain ⟨rfl, rfl, rfl⟩ := trodAll_nil r0
  obtain rfl : args = #[v0] := by cases args; simp_all
  obtain ⟨rfl, rfl⟩ := trodVars_none hV
  obtain ⟨a0, len0, cap0, rfl⟩ := okWide_slice Try.underlying22 (hval 0 22 v0 rfl rfl)
  have k0 := h0
  have lt0 : ∀ x ∈ p0, x.block < W.heap.size := by obtain ⟨m, hm⟩ := k0; exact DataW.trod_lt m _ _ _ hm
  obtain ⟨l0, rfl, s0, n0, m0, z0⟩ := open_u64s h0 hsz (j := 0) rfl rfl
  clear hA0 hval0
  refine (walk a0 cap0 l0 W s0 n0 m0 z0).mono fun e W' ⟨he, bel⟩ => ?_
  subst he
  exact ⟨_, rfl, _, _, _, [], _, [], hW', trodAll_mk1 (shut_bool Try.underlying4 _), (trodAll_cons_mk (Below.trod laidOut (by kernel_rfl) (of_decide_eq_true (by kernel_rfl)) k0 bel lt0) trodAll_mk0), rfl, bel.frame _, fun h => by cases h⟩
theorem over : Rows.countSumsRow.holds Try.pinned (OpenSpec.ofChange Rows.countSumsSpec) :=
  OpenClaim.holds_of_wide 3 Try.f3 rfl rfl rfl rfl rfl rfl rfl ⟨rfl, rfl, rfl, rfl, rfl⟩ rfl rfl rfl rfl rfl (by kernel_rfl) Try.func3 (by kernel_rfl)
    (of_decide_eq_true (by kernel_rfl)) (by unfold Func.isWrapper; first | (rw [if_pos (by decide +kernel)]; kernel_rfl) | (rw [if_neg (by decide +kernel)]; exact ⟨rfl, rfl⟩))
    (fun os started H enc _ => lifted os started H enc)
theorem proved : Rows.CountSumsSaid := over
#print axioms proved
end Go.Proofs.Ytdkfaicmdbhonaa.lawCountSums
