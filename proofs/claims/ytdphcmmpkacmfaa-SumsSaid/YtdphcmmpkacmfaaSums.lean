/-
  Proved: Sums answers true for every input: Sum, Update, Forge and Join are the document's. No condition.
-/
import Derived.Test.YtdphcmmpkacmfaaLe
import Derived.Test.YtdphcmmpkacmfaaRc
import Derived.Test.YtdphcmmpkacmfaaOpen
namespace Go.Proofs.Ytdphcmmpkacmfaa.lawSums
open Go.ChangeShapes Go.WideShapes Go.ChangeAt Go.RowKit Go.K
set_option linter.unusedVariables false
set_option linter.unusedSimpArgs false

set_option maxRecDepth 100000 in
set_option maxHeartbeats 1000000 in
theorem walk (a : Option Addr) (c : Nat) (l : List (BitVec 8)) (r : BitVec 64) (k : Int) (w : World)
   (hs : Sl w a (vBs l)) (hn : l.length ≤ c) (hm : c ≤ 140737488351232) (hz : a = none → l.length = 0 ∧ c = 0) (hk : -9223372036854775808 ≤ k ∧ k ≤ 9223372036854775807) :
    Calls Try.prog 5 #[.slice a l.length c, .int .u64 (U64 r), .int .i64 k] w fun e w' => e = .returned (.bool true) ∧ Below w.heap.size w w' := by
  have HA := Lib.hid hs
  have HZ := Lib.hid hz
  have HK := Lib.hid hk
  clear hs hz hk
  have hmax : l.length ≤ maxLen := by unfold maxLen; omega
  go_enter Try.func5, Try.ntmps5
  go_wp2_with fail
  refine (lent_any' a c l _ (by omega) HZ.out HA.out).mono ?_
  rintro e w1 ⟨g, cap, rfl, hg, hl, hb1⟩
  have HL := Lib.hid hl
  have HA1 := Lib.hid (HA.out.kept hb1)
  clear hl hg
  have hlF := bytesN_length 8 (forgeX l r)
  have S1 := Lib.hid (show ∀ W, Below w1.heap.size w1 W → Calls Try.prog 16 #[.slice (some ⟨g, 0, none⟩) l.length cap] W fun e w' => e = .returned (.int .u64 (U64 (updB 0#64 l))) ∧ Below w1.heap.size w1 w' from
    fun W hW => onto (sum_at _ l.length cap l W rfl hmax (HL.out.sl.kept hW)) hW)
  have S2 := Lib.hid (show ∀ W, Below w1.heap.size w1 W → Calls Try.prog 18 #[.slice a l.length c] W fun e w' => e = .returned (.int .u64 (U64 (updB 0#64 l))) ∧ Below w1.heap.size w1 w' from
    fun W hW => onto_same (rsum_any a c l W hmax (HA1.out.kept hW)) hW)
  have U1 := Lib.hid (show ∀ W, Below w1.heap.size w1 W → Calls Try.prog 19 #[.int .u64 (U64 r), .slice (some ⟨g, 0, none⟩) l.length cap] W fun e w' => e = .returned (.int .u64 (U64 (updB r l))) ∧ Below w1.heap.size w1 w' from
    fun W hW => onto (update_at r _ l.length cap l W rfl hmax (HL.out.sl.kept hW)) hW)
  have U2 := Lib.hid (show ∀ W, Below w1.heap.size w1 W → Calls Try.prog 20 #[.int .u64 (U64 r), .slice a l.length c] W fun e w' => e = .returned (.int .u64 (U64 (updB r l))) ∧ Below w1.heap.size w1 w' from
    fun W hW => onto_same (rupdate_any r a c l W hmax (HA1.out.kept hW)) hW)
  have F1 := Lib.hid (show ∀ W, Below w1.heap.size w1 W → Calls Try.prog 21 #[.slice (some ⟨g, 0, none⟩) l.length cap, .int .u64 (U64 r)] W fun e w' => e = .returned (.agg (vBs (bytesN 8 (forgeX l r))).toArray) ∧ Below w1.heap.size w1 w' from
    fun W hW => onto (forge8 (U64 r) r rfl _ l.length cap l W rfl hmax (HL.out.sl.kept hW)) hW)
  have F2 := Lib.hid (show ∀ W, Below w1.heap.size w1 W → Calls Try.prog 22 #[.slice a l.length c, .int .u64 (U64 r)] W fun e w' => e = .returned (.agg (vBs (bytesN 8 (forgeX l r))).toArray) ∧ Below w1.heap.size w1 w' from
    fun W hW => onto (rforge_any r a c l W hmax (HA1.out.kept hW)) hW)
  have K1 := Lib.hid (show ∀ W, Below w1.heap.size w1 W → Calls Try.prog 23 #[.slice (some ⟨g, 0, none⟩) l.length cap, .slice a l.length c] W fun e w' => e = .returned (.bool true) ∧ Below w1.heap.size w1 w' from
    fun W hW => onto (kept_any g cap a c l W (by omega) (HL.out.kept hW) (HA1.out.kept hW)) hW)
  have heq : ∀ W, (Op.equalIn 10000 37 (.agg (vBs (bytesN 8 (forgeX l r))).toArray) (.agg (vBs (bytesN 8 (forgeX l r))).toArray)).run Try.prog W = .ok true W := fun W => by rw [run_eq8 _ _ hlF hlF W]; simp
  clear hlF
  generalize bytesN 8 (forgeX l r) = F at *
  have hb0 : Below w1.heap.size w1 w1 := Below.refl _ _
  have e1 : (U64 (updB 0#64 l) != U64 (updB 0#64 l)) = false := by simp
  have e2 : (U64 (updB r l) != U64 (updB r l)) = false := by simp
  by_cases hneg : k < 0
  · have J1 := Lib.hid (show ∀ W, Below w1.heap.size w1 W → Calls Try.prog 24 #[.int .u64 (U64 r), .int .u64 (U64 (updB 0#64 l)), .int .i64 k] W fun e w' => e = .returned (.tuple #[.int .u64 0, .int .i64 2]) ∧ Below w1.heap.size w1 w' from
      fun W hW => onto_same (rjoin_neg r _ k W hneg) hW)
    have J2 := Lib.hid (show ∀ W, Below w1.heap.size w1 W → Calls Try.prog 12 #[.int .u64 (U64 r), .int .u64 (U64 (updB 0#64 l)), .int .i64 k] W fun e w' => e = .returned (.tuple #[.int .u64 0, .int .i64 2]) ∧ Below w1.heap.size w1 w' from
      fun W hW => onto_same (join_neg r _ k W hneg) hW)
    clear hneg
    go_wp2_with (first
      | (go_at_call 16; with_reducible refine (S1.out _ (by assumption)).mono ?_; rintro e w' ⟨rfl, hb⟩)
      | (go_at_call 18; with_reducible refine (S2.out _ (by assumption)).mono ?_; rintro e w' ⟨rfl, hb⟩)
      | (go_at_call 19; with_reducible refine (U1.out _ (by assumption)).mono ?_; rintro e w' ⟨rfl, hb⟩)
      | (go_at_call 20; with_reducible refine (U2.out _ (by assumption)).mono ?_; rintro e w' ⟨rfl, hb⟩)
      | (go_at_call 21; with_reducible refine (F1.out _ (by assumption)).mono ?_; rintro e w' ⟨rfl, hb⟩)
      | (go_at_call 22; with_reducible refine (F2.out _ (by assumption)).mono ?_; rintro e w' ⟨rfl, hb⟩)
      | (go_at_call 23; with_reducible refine (K1.out _ (by assumption)).mono ?_; rintro e w' ⟨rfl, hb⟩)
      | (go_at_call 24; with_reducible refine (J1.out _ (by assumption)).mono ?_; rintro e w' ⟨rfl, hb⟩)
      | (go_at_call 12; with_reducible refine (J2.out _ (by assumption)).mono ?_; rintro e w' ⟨rfl, hb⟩)
      | (go_at_call 13; refine (num_any _ _).mono ?_; rintro e w' ⟨rfl, rfl⟩))
    go_ret
    exact ⟨rfl, hb1.trans (hb.mono hb1.size)⟩
  · obtain ⟨n, rfl⟩ : ∃ n : Nat, k = (n : Int) := ⟨k.toNat, by omega⟩
    have hn63 : n < 9223372036854775808 := by have := HK.out; omega
    have J1 := Lib.hid (show ∀ W, Below w1.heap.size w1 W → Calls Try.prog 24 #[.int .u64 (U64 r), .int .u64 (U64 (updB 0#64 l)), .int .i64 n] W fun e w' => e = .returned (.tuple #[.int .u64 (U64 (joinRest r M0 n ^^^ updB 0#64 l)), .int .i64 0]) ∧ Below w1.heap.size w1 w' from
      fun W hW => onto (rjoin_any r _ n W hn63) hW)
    have J2 := Lib.hid (show ∀ W, Below w1.heap.size w1 W → Calls Try.prog 12 #[.int .u64 (U64 r), .int .u64 (U64 (updB 0#64 l)), .int .i64 n] W fun e w' => e = .returned (.tuple #[.int .u64 (U64 (joinRest r M0 n ^^^ updB 0#64 l)), .int .i64 0]) ∧ Below w1.heap.size w1 w' from
      fun W hW => onto (join_any r _ n W hn63) hW)
    generalize joinRest r M0 n ^^^ updB 0#64 l = Z at J1 J2
    have e3 : (U64 Z == U64 Z) = true := by simp
    clear hneg hn63
    go_wp2_with (first
      | (go_at_call 16; with_reducible refine (S1.out _ (by assumption)).mono ?_; rintro e w' ⟨rfl, hb⟩)
      | (go_at_call 18; with_reducible refine (S2.out _ (by assumption)).mono ?_; rintro e w' ⟨rfl, hb⟩)
      | (go_at_call 19; with_reducible refine (U1.out _ (by assumption)).mono ?_; rintro e w' ⟨rfl, hb⟩)
      | (go_at_call 20; with_reducible refine (U2.out _ (by assumption)).mono ?_; rintro e w' ⟨rfl, hb⟩)
      | (go_at_call 21; with_reducible refine (F1.out _ (by assumption)).mono ?_; rintro e w' ⟨rfl, hb⟩)
      | (go_at_call 22; with_reducible refine (F2.out _ (by assumption)).mono ?_; rintro e w' ⟨rfl, hb⟩)
      | (go_at_call 23; with_reducible refine (K1.out _ (by assumption)).mono ?_; rintro e w' ⟨rfl, hb⟩)
      | (go_at_call 24; with_reducible refine (J1.out _ (by assumption)).mono ?_; rintro e w' ⟨rfl, hb⟩)
      | (go_at_call 12; with_reducible refine (J2.out _ (by assumption)).mono ?_; rintro e w' ⟨rfl, hb⟩)
      | (go_at_call 13; refine (num_any _ _).mono ?_; rintro e w' ⟨rfl, rfl⟩))
    go_ret
    exact ⟨rfl, hb1.trans (hb.mono hb1.size)⟩
theorem own : ownKnob Try.prog.godebug = none := by kernel_rfl
theorem laidOut : laidOutB Try.prog = true := by kernel_rfl
set_option maxRecDepth 100000 in
theorem lifted (os : Os) (started : os.Started) (H : Type) (enc : TypeId × Value → H) :
    ReturnsInHanded {} Try.checked os 5 .any (Rows.sumsSpec.pre6 enc Try.prog Try.f5 Rows.sumsRow.domain false) (Rows.sumsSpec.post enc Try.prog Try.f5 false true false false) := by
  refine returnsInHanded_of_change_sized (C := Try.checked) own started (by kernel_rfl) Try.func5
    (ChangeSpec.witness6 (enc := enc) (C := Try.checked) false ⟨#[], #[.slice none 0 0, .int .u64 0, .int .i64 0], []⟩ 8 (by kernel_rfl) (by kernel_rfl) (by kernel_rfl) (by kernel_rfl)) ?_
  intro W base args ds gs before hval0 hW hcnd hsz0 _
  have hsz : (DataW.weightsEach Try.prog (Try.f5.params.toList ++ Rows.sumsSpec.plain.varTypes Try.prog) (ds ++ gs)).all (· ≤ reachBytes) = true := hsz0
  clear hsz0
  have hval : ∀ (j : Nat) t v, Try.f5.params[j]? = some t → args[j]? = some v → Value.okWide Try.prog W .any base t v := hval0
  have hW' := hW
  obtain ⟨p, q, hA0, hV, rfl, hfz, hnd⟩ := hW
  have hA : DataW.TrodAll enc Try.prog W 0 (fun _ => true) true Try.f5.params.toList args.toList ds p := hA0
  rw [Try.params5] at hA hval hsz
  obtain ⟨v0, vs0, d0, ds0, p0, q0, hargs, rfl, rfl, h0, r0⟩ := trodAll_cons hA
  obtain ⟨v1, vs1, d1, ds1, p1, q1, rfl, rfl, rfl, h1, r1⟩ := trodAll_cons r0
  obtain ⟨v2, vs2, d2, ds2, p2, q2, rfl, rfl, rfl, h2, r2⟩ := trodAll_cons r1
  obtain ⟨rfl, rfl, rfl⟩ := trodAll_nil r2
  obtain rfl : args = #[v0, v1, v2] := by cases args; simp_all
  obtain ⟨rfl, rfl⟩ := trodVars_none hV
  obtain ⟨a0, len0, cap0, rfl⟩ := okWide_slice Try.underlying29 (hval 0 29 v0 rfl rfl)
  have k0 := h0
  have lt0 : ∀ x ∈ p0, x.block < W.heap.size := by obtain ⟨m, hm⟩ := k0; exact DataW.trod_lt m _ _ _ hm
  obtain ⟨l0, rfl, s0, n0, m0, z0⟩ := open_bytes Try.underlying29 Try.underlying5 (by kernel_rfl) (by kernel_rfl) h0 hsz (j := 0) rfl rfl
  obtain ⟨a1, rfl, rfl, rfl, w1⟩ := open_int Try.underlying22 (hval 1 22 v1 rfl rfl) h1
  obtain ⟨x1, rfl⟩ := u64_of_wf w1
  obtain ⟨a2, rfl, rfl, rfl, w2⟩ := open_int Try.underlying3 (hval 2 3 v2 rfl rfl) h2
  have b2 := i64_of_wf w2
  clear hA0 hval0
  refine (walk a0 cap0 l0 x1 a2 W s0 n0 m0 z0 b2).mono fun e W' ⟨he, bel⟩ => ?_
  subst he
  exact ⟨_, rfl, _, _, _, [], _, [], hW', trodAll_mk1 (shut_bool Try.underlying4 _), (trodAll_cons_mk (Below.trod laidOut (by kernel_rfl) (of_decide_eq_true (by kernel_rfl)) k0 bel lt0) (trodAll_cons_mk (shut_int Try.underlying22 w1) (trodAll_cons_mk (shut_int Try.underlying3 w2) trodAll_mk0))), rfl, bel.frame _, fun h => by cases h⟩
theorem over : Rows.sumsRow.holds Try.pinned (OpenSpec.ofChange Rows.sumsSpec) :=
  OpenClaim.holds_of_wide 5 Try.f5 rfl rfl rfl rfl rfl rfl rfl ⟨rfl, rfl, rfl, rfl, rfl⟩ rfl rfl rfl rfl rfl (by kernel_rfl) Try.func5 (by kernel_rfl)
    (of_decide_eq_true (by kernel_rfl)) (by unfold Func.isWrapper; first | (rw [if_pos (by decide +kernel)]; kernel_rfl) | (rw [if_neg (by decide +kernel)]; exact ⟨rfl, rfl⟩))
    (fun os started H enc _ => lifted os started H enc)
theorem proved : Rows.SumsSaid := over
#print axioms proved
end Go.Proofs.Ytdphcmmpkacmfaa.lawSums
