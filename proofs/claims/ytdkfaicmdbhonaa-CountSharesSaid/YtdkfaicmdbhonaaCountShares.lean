/-
  Shares of any total and any weights is the document's, twice; nothing that is handed in is changed.
  No condition beyond the statement's own.
-/
import Derived.Test.YtdkfaicmdbhonaaXf
import Derived.Test.YtdkfaicmdbhonaaOa
namespace Go.Proofs.Ytdkfaicmdbhonaa.lawCountShares
open Go.RowKit Go.K Go.ChangeShapes Go.WideShapes Go.ChangeAt Go.Words
set_option linter.unusedVariables false
set_option linter.unusedSimpArgs false
theorem wrapU (z : Int) : ∃ c : BitVec 64, IntKind.u64.wrap z = U64 c := by
  refine ⟨BitVec.ofInt 64 z, ?_⟩
  unfold U64
  rw [IntKind.wrap_u64, BitVec.toNat_ofInt]
  omega
set_option maxRecDepth 100000 in
set_option maxHeartbeats 2000000 in
theorem walk (t : BitVec 64) (a : Option Addr) (c : Nat) (l : List (BitVec 64)) (w : World) (hs : Sl w a (vQ l)) (hn : l.length ≤ c) (hm : c ≤ 17592186043904) (hz : a = none → l.length = 0 ∧ c = 0) :
    Calls Try.prog 6 #[.int .u64 (U64 t), .slice a l.length c] w fun e w' => e = .returned (.bool true) ∧ Below w.heap.size w w' := by
  have HN := Lib.hid (show l.length ≤ 17592186043904 by omega)
  have K12 := Lib.hid (lent_any a c l w (by omega) hz hs)
  clear hs hn hm hz
  go_enter Try.func6, Try.ntmps6
  go_wp2_with fail
  refine K12.out.mono ?_
  rintro e w1 ⟨g, cap, rfl, hg, hle, hb1⟩
  have HG := Lib.hid hg
  have HLE := Lib.hid hle
  have HB1 := Lib.hid hb1
  clear hg hle hb1 K12
  go_wp2
  go_loopw [6, 7, 8, 9, 10, 11, 12] (fun x6 x7 x8 x9 x10 x11 x12 V => ∃ (p : Nat) (m : List (BitVec 64)), p ≤ 2 ∧ x6 = .int .i64 p ∧ m.length = l.length ∧ Lent V m g cap ∧ Below w.heap.size w V) (fun x6 _ _ _ _ _ _ _ => 2 - (intOf x6).toNat)
  case atStart => exact ⟨0, l, by omega, rfl, rfl, HLE.out, HB1.out⟩
  case round =>
    obtain ⟨p, m, hp, rfl, hml, hle, hb⟩ := hrel
    have HL := Lib.hid hle
    have HB := Lib.hid hb
    have HML := Lib.hid hml
    clear hle hb hml HLE HB1
    by_cases hp2 : p < 2
    case neg =>
      have t0 : decide ((p : Int) < 2) = false := decide_eq_false (by omega)
      have t0n : decide (p < 2) = false := decide_eq_false hp2
      clear hp hp2
      go_wp2
      go_ret
      exact ⟨rfl, HB.out⟩
    case pos =>
    have t0 : decide ((p : Int) < 2) = true := decide_eq_true (by omega)
    have t0n : decide (p < 2) = true := decide_eq_true hp2
    have HP := Lib.hid hp2
    have w6 : IntKind.i64.wrap ((p : Int) + 1) = ((p + 1 : Nat) : Int) := by rw [IntKind.wrap_i64]; omega
    have h63 : 0 + l.length ≤ maxLen := by unfold maxLen; have := HN.out; omega
    have hby : (0 + l.length) * 8 ≤ 140737488355328 := by have := HN.out; omega
    clear hp hp2
    go_wp2_with (at_builtin; refine wpList_append_sl rfl _ _ 22 rfl w.heap.size 24 (.int .u64 0) 1 8 Try.underlying22 infoQ (by rfl) (by decide) (.slice none 0 0) 0 [] (by rfl) (World.ownsRow_nil _ _ _ _) (some ⟨g, 0, none⟩) l.length cap (vQ m) (by rfl) (fun h => by cases h) (by rw [vQ_length, HML.out]; omega) HL.out.sl (fun u hu => by unfold vQ at hu; obtain ⟨b, _, rfl⟩ := List.mem_map.1 hu; rfl) h63 hby HB.out.size ?a7)
    intro v7 w2 ho2 hg2
    obtain ⟨a7, c7, hv7, _, hs7, _⟩ := Go.K.owns_slice ho2
    subst hv7
    have hbl : Below wr.heap.size wr w2 := (Below.refl _ _).grown hg2 (Nat.le_refl _) (fun k hk => by cases hk)
    have HS2 := Lib.hid hs7
    have HL2 := Lib.hid (HL.out.kept hbl)
    have HB2 := Lib.hid (HB.out.trans (hbl.mono HB.out.size))
    have K34 := shares_one t m (some ⟨g, 0, none⟩) cap w2 (by rw [HML.out]; exact HN.out) HL2.out.sl
    rw [HML.out] at K34
    have K34 := Lib.hid K34
    clear ho2 hg2 hs7 hbl h63 hby HL HB
    go_wp2_with fail
    refine K34.out.mono ?_
    rintro e w3 ⟨a3, c3, rfl, ho3, _, hb3⟩
    have HS3 := Lib.hid (owns_sl ho3 (vQ_length _))
    have HR3 := Lib.hid (HS2.out.kept hb3)
    have HL3 := Lib.hid (HL2.out.kept hb3)
    have HB3 := Lib.hid (HB2.out.trans (hb3.mono HB2.out.size))
    have K35 := rshares_one t m a7 c7 w3 HR3.out
    rw [HML.out] at K35
    have K35 := Lib.hid K35
    clear ho3 hb3 K34 HS2 HL2 HB2
    go_wp2_with fail
    refine K35.out.mono ?_
    rintro e w4 ⟨a4, c4, rfl, hs4, hb4⟩
    have HS4 := Lib.hid hs4
    have HS3' := Lib.hid (HS3.out.kept hb4)
    have HR4 := Lib.hid (HR3.out.kept hb4)
    have HL4 := Lib.hid (HL3.out.kept hb4)
    have HB4 := Lib.hid (HB3.out.trans (hb4.mono HB3.out.size))
    have hrl : (shR t.toNat m).length ≤ 17592186043904 := by
      by_cases hok : okS m
      · rw [show shR t.toNat m = shL t.toNat m from if_pos hok, shL_len]; have := hok.2.1; omega
      · rw [show shR t.toNat m = [] from if_neg hok]; decide
    have K36 := same_any a3 a4 c3 c4 (shR t.toNat m) (shR t.toNat m) w4 (by unfold maxLen; omega) rfl HS3'.out HS4.out
    rw [show decide (shR t.toNat m = shR t.toNat m) = true from decide_eq_true rfl] at K36
    have K36 := Lib.hid K36
    clear hs4 hb4 K35 HS3 HR3 HL3 HB3 hrl
    have se : (shE m != shE m) = false := by simp
    obtain ⟨E, hE⟩ : ∃ E, E = shE m := ⟨_, rfl⟩
    obtain ⟨RL, hRL⟩ : ∃ RL, RL = (shR t.toNat m).length := ⟨_, rfl⟩
    rw [← hE] at se ⊢
    rw [← hRL] at K36 ⊢
    clear hE hRL
    go_wp2_with fail
    refine K36.out.mono ?_
    rintro e w5 ⟨rfl, hq5⟩
    have HR5 := Lib.hid (HR4.out.kept (hq5.below _))
    have HL5 := Lib.hid (HL4.out.kept (hq5.below _))
    have HB5 := Lib.hid (HB4.out.trans ((hq5.below _).mono HB4.out.size))
    have K15 := kept_any g cap a7 c7 m w5 (by rw [HML.out]; exact HN.out) HL5.out HR5.out
    rw [HML.out] at K15
    have K15 := Lib.hid K15
    clear hq5 K36 HS4 HS3' HR4 HL4 HB4
    go_wp2_with fail
    refine K15.out.mono ?_
    rintro e w6 ⟨rfl, hq6⟩
    have HL6 := Lib.hid (HL5.out.kept (hq6.below _))
    have HB6 := Lib.hid (HB5.out.trans ((hq6.below _).mono HB5.out.size))
    clear hq6 K15 HR5 HL5 HB5
    go_wp2
    go_loopw [12] (fun x12 V => ∃ (i : Nat) (m' : List (BitVec 64)), i ≤ l.length ∧ x12 = .int .i64 i ∧ m'.length = l.length ∧ Lent V m' g cap ∧ Below w.heap.size w V) (fun x12 _ => l.length - (intOf x12).toNat)
    case atStart => exact ⟨0, m, Nat.zero_le _, rfl, HML.out, HL6.out, HB6.out⟩
    case round =>
      obtain ⟨i, m', hi, rfl, hml', hle', hb'⟩ := hrel
      have HL' := Lib.hid hle'
      have HB' := Lib.hid hb'
      have HML' := Lib.hid hml'
      clear hle' hb' hml' HL6 HB6
      by_cases hlt : i < l.length
      case neg =>
        have t1 : decide ((i : Int) < (l.length : Int)) = false := decide_eq_false (by omega)
        have t1n : decide (i < l.length) = false := decide_eq_false hlt
        clear hlt hi
        go_wp2
        go_roundw
        case rel => exact ⟨p + 1, m', HP.out, by go_num, HML'.out, HL'.out, HB'.out⟩
        case measure => have := HP.out; simp [intOf]; omega
      case pos =>
      have t1 : decide ((i : Int) < (l.length : Int)) = true := decide_eq_true (by omega)
      have t1n : decide (i < l.length) = true := decide_eq_true hlt
      have i1 : (i : Int) < (l.length : Int) := by omega
      have HI := Lib.hid hlt
      have w2 : IntKind.i64.wrap ((i : Int) + 1) = ((i + 1 : Nat) : Int) := by rw [IntKind.wrap_i64]; have := HN.out; omega
      have hi' : i < m'.length := by rw [HML'.out]; exact hlt
      have y1 : wr.cell? ⟨g, i, none⟩ = some (.int .u64 (U64 m'[i])) := by
        obtain ⟨b, o, e, hc⟩ := HL'.out.sl (vQ_ne hi')
        injection e with e
        injection e with e1 e2
        subst e1 e2
        have h1 := hc i (by rw [vQ_length]; exact hi')
        rw [vQ_get m' i hi', Nat.zero_add] at h1
        exact h1
      have f1 : wr.frozen? ⟨g, i, none⟩ = false := by
        obtain ⟨cur, hh, _⟩ := HL'.out
        exact frozen_of_row _ _ i _ _ hh
      obtain ⟨x, hx⟩ : ∃ x, x = U64 m'[i] := ⟨_, rfl⟩
      rw [← hx] at y1
      clear hlt hi hi' hx
      go_wp2_with fail
      obtain ⟨cc, hcc⟩ := wrapU (IntKind.u64.wrap (x.tdiv (2 + (i : Int) % 3)) + (i : Int) % 2)
      rw [hcc]
      have hi' : i < m'.length := by rw [HML'.out]; exact HI.out
      refine ⟨⟨i + 1, m'.set i cc, HI.out, by go_num, by rw [List.length_set]; exact HML'.out, HL'.out.set i hi' cc, HB'.out.grown (grown_set (grown_refl wr (some g)) i _) HB'.out.size (fun k hk => by cases hk; exact HG.out)⟩, ?_⟩
      have := HI.out
      simp [intOf]; omega
theorem own : ownKnob Try.prog.godebug = none := by kernel_rfl
theorem laidOut : laidOutB Try.prog = true := by kernel_rfl
set_option maxRecDepth 100000 in
theorem lifted (os : Os) (started : os.Started) (H : Type) (enc : TypeId × Value → H) :
    ReturnsInHanded {} Try.checked os 6 .any (Rows.countSharesSpec.pre6 enc Try.prog Try.f6 Rows.countSharesRow.domain false) (Rows.countSharesSpec.post enc Try.prog Try.f6 false true false false) := by
  refine returnsInHanded_of_change_sized (C := Try.checked) own started (by kernel_rfl) Try.func6
    (ChangeSpec.witness6 (enc := enc) (C := Try.checked) false ⟨#[], #[.int .u64 0, .slice none 0 0], []⟩ 8 (by kernel_rfl) (by kernel_rfl) (by kernel_rfl) (by kernel_rfl)) ?_
  intro W base args ds gs before hval0 hW hcnd hsz0 _
  have hsz : (DataW.weightsEach Try.prog (Try.f6.params.toList ++ Rows.countSharesSpec.plain.varTypes Try.prog) (ds ++ gs)).all (· ≤ reachBytes) = true := hsz0
  clear hsz0
  have hval : ∀ (j : Nat) t v, Try.f6.params[j]? = some t → args[j]? = some v → Value.okWide Try.prog W .any base t v := hval0
  have hW' := hW
  obtain ⟨p, q, hA0, hV, rfl, hfz, hnd⟩ := hW
  have hA : DataW.TrodAll enc Try.prog W 0 (fun _ => true) true Try.f6.params.toList args.toList ds p := hA0
  rw [Try.params6] at hA hval hsz
  obtain ⟨v0, vs0, d0, ds0, p0, q0, hargs, rfl, rfl, h0, r0⟩ := trodAll_cons hA
  obtain ⟨v1, vs1, d1, ds1, p1, q1, rfl, rfl, rfl, h1, r1⟩ := trodAll_cons r0
  obtain ⟨rfl, rfl, rfl⟩ := trodAll_nil r1
  obtain rfl : args = #[v0, v1] := by cases args; simp_all
  obtain ⟨rfl, rfl⟩ := trodVars_none hV
  obtain ⟨a0, rfl, rfl, rfl, w0⟩ := open_int Try.underlying24 (hval 0 24 v0 rfl rfl) h0
  obtain ⟨x0, rfl⟩ := u64_of_wf w0
  obtain ⟨a1, len1, cap1, rfl⟩ := okWide_slice Try.underlying22 (hval 1 22 v1 rfl rfl)
  have k1 := h1
  have lt1 : ∀ x ∈ p1, x.block < W.heap.size := by obtain ⟨m, hm⟩ := k1; exact DataW.trod_lt m _ _ _ hm
  obtain ⟨l1, rfl, s1, n1, m1, z1⟩ := open_u64s h1 hsz (j := 1) rfl rfl
  clear hA0 hval0
  refine (walk x0 a1 cap1 l1 W s1 n1 m1 z1).mono fun e W' ⟨he, bel⟩ => ?_
  subst he
  exact ⟨_, rfl, _, _, _, [], _, [], hW', trodAll_mk1 (shut_bool Try.underlying4 _), (trodAll_cons_mk (shut_int Try.underlying24 w0) (trodAll_cons_mk (Below.trod laidOut (by kernel_rfl) (of_decide_eq_true (by kernel_rfl)) k1 bel lt1) trodAll_mk0)), rfl, bel.frame _, fun h => by cases h⟩
theorem over : Rows.countSharesRow.holds Try.pinned (OpenSpec.ofChange Rows.countSharesSpec) :=
  OpenClaim.holds_of_wide 6 Try.f6 rfl rfl rfl rfl rfl rfl rfl ⟨rfl, rfl, rfl, rfl, rfl⟩ rfl rfl rfl rfl rfl (by kernel_rfl) Try.func6 (by kernel_rfl)
    (of_decide_eq_true (by kernel_rfl)) (by unfold Func.isWrapper; first | (rw [if_pos (by decide +kernel)]; kernel_rfl) | (rw [if_neg (by decide +kernel)]; exact ⟨rfl, rfl⟩))
    (fun os started H enc _ => lifted os started H enc)
theorem proved : Rows.CountSharesSaid := over
#print axioms proved
end Go.Proofs.Ytdkfaicmdbhonaa.lawCountShares
