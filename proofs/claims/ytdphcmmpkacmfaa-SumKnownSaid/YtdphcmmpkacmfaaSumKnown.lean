/-
  Proved: SumKnown answers true: the chapter's examples, and a nil stream. A closed statement, no condition.
-/
import Derived.Test.YtdphcmmpkacmfaaLd
import Derived.Test.YtdphcmmpkacmfaaReg
import Derived.Test.YtdphcmmpkacmfaaOpen
namespace Go.Proofs.Ytdphcmmpkacmfaa.lawSumKnown
open Go.ChangeShapes Go.WideShapes Go.ChangeAt Go.RowKit Go.K
set_option linter.unusedVariables false
set_option linter.unusedSimpArgs false

theorem outRow_ff : outRow (forgeX [] 18446744073709551615#64) 8 = #[.int .u8 255, .int .u8 255, .int .u8 255, .int .u8 255, .int .u8 255, .int .u8 255, .int .u8 255, .int .u8 255] := by
  have h : forgeX [] 18446744073709551615#64 = 18446744073709551615#64 := by decide +kernel
  rw [h]; rfl
set_option maxRecDepth 100000 in
set_option maxHeartbeats 1000000 in
theorem walk (w : World) : Calls Try.prog 10 #[] w fun e w' => e = .returned (.bool true) ∧ Below w.heap.size w w' := by
  have hnil : ∀ W, Sl W none (vBs []) := fun W => Sl.nil _ _
  have N := Lib.hid hnil
  clear hnil
  go_enter Try.func10, Try.ntmps10
  go_wp2_with fail
  refine (awake_any _).mono ?_
  rintro e w1 ⟨rfl, hb1⟩
  go_wp2_with fail
  refine (onto (sum_at none 0 0 [] _ rfl (by decide) (N.out _)) hb1).mono ?_
  rintro e w2 ⟨rfl, hb2⟩
  rw [show updB 0#64 [] = 0#64 from by decide]
  clear hb1
  have e0 : (U64 0#64 != 0) = false := by decide
  have f1 : (U64 (updB 0#64 [0#8]) != 2282658103124508505) = false := by decide +kernel
  have f2 : (U64 (updB 18446744073709551615#64 [0#8]) != 18446744073709551615) = false := by decide +kernel
  have F1 := Lib.hid f1
  have F2 := Lib.hid f2
  clear f1 f2
  go_wp2_with fail
  have hs := sl_sub (l := [0#8]) (t := 5) (fr := (0, 0)) (b := w2.heap.size) (w := w2.alloc (.cells (vBs [0#8]).toArray 5)) (heap_alloc_new _ _) 0 1
  have HB := Lib.hid (hb2.alloc hb2.size (.cells (vBs [0#8]).toArray 5))
  refine (onto (update_i 0 0#64 rfl _ 1 1 [0#8] _ rfl (by decide) hs) HB.out).mono ?_
  rintro e w3 ⟨rfl, hb3⟩
  clear hs hb2 HB
  have f1 := F1.out
  go_wp2_with fail
  have hs := sl_sub (l := [0#8]) (t := 5) (fr := (0, 0)) (b := w3.heap.size) (w := w3.alloc (.cells (vBs [0#8]).toArray 5)) (heap_alloc_new _ _) 0 1
  have HB := Lib.hid (hb3.alloc hb3.size (.cells (vBs [0#8]).toArray 5))
  refine (onto (update_i 18446744073709551615 18446744073709551615#64 rfl _ 1 1 [0#8] _ rfl (by decide) hs) HB.out).mono ?_
  rintro e w4 ⟨rfl, hb4⟩
  clear hs hb3 HB f1
  have f2 := F2.out
  go_wp2_with fail
  refine (onto (join_i 7 9 7#64 9#64 rfl rfl 0 0 rfl _ (by decide)) hb4).mono ?_
  rintro e w5 ⟨rfl, hb5⟩
  rw [show joinRest 7#64 M0 0 ^^^ 9#64 = 14#64 by rw [joinRest]; rfl]
  have f3 : (U64 14#64 != 14) = false := by decide
  clear f2 hb4
  go_wp2_with fail
  refine (onto_same (join_negi 7 9 7#64 9#64 rfl rfl (-1) _ (by decide)) hb5).mono ?_
  rintro e w6 ⟨rfl, hb6⟩
  clear hb5
  have hq : ∀ w, (Op.equalIn 10000 37 (.agg #[.int .u8 255, .int .u8 255, .int .u8 255, .int .u8 255, .int .u8 255, .int .u8 255, .int .u8 255, .int .u8 255]) (.agg #[.int .u8 255, .int .u8 255, .int .u8 255, .int .u8 255, .int .u8 255, .int .u8 255, .int .u8 255, .int .u8 255])).run Try.prog w = .ok true w := fun w => by kernel_rfl
  go_wp2_with (first
    | (go_at_call 13; refine (num_any _ _).mono ?_; rintro e w' ⟨rfl, rfl⟩)
    | (go_at_call 21; refine (onto (forge_at 18446744073709551615 18446744073709551615#64 rfl none 0 0 [] _ rfl (by decide) (N.out _)) hb6).mono ?_; rintro e w7 ⟨rfl, hb7⟩; rw [outRow_ff])
    | (go_at_call 25; refine (new_any _).mono ?_; rintro e w8 ⟨rfl, hw8⟩))
  clear hq f3 hb6
  have hz := hb7.size
  have hg0 : (w7.alloc (.cells (strRow 0#64 0) 71)).heap[w7.heap.size]? = some (.cells (strRow 0#64 0) 71) := heap_alloc_new _ _
  have hb8 : Below w.heap.size w (w7.alloc (.cells (strRow 0#64 0) 71)) := hb7.alloc hb7.size _
  generalize hg : w7.heap.size = g at hz hg0
  generalize w7.alloc (.cells (strRow 0#64 0) 71) = v0 at *
  clear hg hb7 hw8
  have HLT := Lib.hid (show ∀ (v : World) (o : Obj), v.heap[g]? = some o → g < v.heap.size from fun v o h => (Array.getElem?_eq_some_iff.1 h).1)
  have HG := Lib.hid hg0
  clear hg0
  refine (nine_any _).mono ?_
  rintro e v1 ⟨rfl, hv1⟩
  have hs : Sl v1 (some ⟨v0.heap.size, 0, none⟩) (vBs ((nineL.drop 0).take 2)) := sl_sub (by rw [hv1]; exact heap_alloc_new _ _) 0 2
  have hb9 : Below w.heap.size w v1 := by rw [hv1]; exact hb8.alloc hb8.size _
  have hg1 := (show v1.heap[g]? = v0.heap[g]? by rw [hv1]; exact heap_alloc_old _ _ (HLT.out _ _ HG.out)).trans HG.out
  have HS := Lib.hid hs
  have HG1 := Lib.hid hg1
  clear hs hg1 HG hb8 hv1
  go_wp2_with fail
  refine (write_at g 0#64 0 _ 2 _ (nineL.take 2) _ HG1.out rfl (by decide) (by decide) HS.out).mono ?_
  rintro e v2 ⟨rfl, hgr, hg2⟩
  have hb10 := below_grown hb9 hgr hb9.size hz
  have HG2 := Lib.hid hg2
  clear HG1 HS hgr hg2 hb9
  go_wp2_with fail
  refine (write_at g _ _ none 0 0 [] _ HG2.out rfl (by decide) (by decide) (N.out _)).mono ?_
  rintro e v3 ⟨rfl, hgr, hg3⟩
  have hb11 := below_grown hb10 hgr hb10.size hz
  have HG3 := Lib.hid hg3
  clear HG2 hgr hg3 hb10
  go_wp2_with fail
  refine (nine_any _).mono ?_
  rintro e v4 ⟨rfl, hv4⟩
  have hs : Sl v4 (some ⟨v3.heap.size, 2, none⟩) (vBs ((nineL.drop 2).take 7)) := sl_sub (by rw [hv4]; exact heap_alloc_new _ _) 2 7
  have hb12 : Below w.heap.size w v4 := by rw [hv4]; exact hb11.alloc hb11.size _
  have hg4 := (show v4.heap[g]? = v3.heap[g]? by rw [hv4]; exact heap_alloc_old _ _ (HLT.out _ _ HG3.out)).trans HG3.out
  have HS := Lib.hid hs
  have HG4 := Lib.hid hg4
  clear hs hg4 HG3 hb11 hv4
  go_wp2_with fail
  refine (sum_at _ 7 _ (nineL.drop 2) _ rfl (by decide) HS.out).mono ?_
  rintro e v5 ⟨rfl, hb⟩
  have HG5 := Lib.hid ((hb.block g (HLT.out _ _ HG4.out)).trans HG4.out)
  have hb13 := hb12.trans (hb.mono hb12.size)
  clear hb hb12 HG4 HS
  go_wp2_with fail
  refine (put_i g _ _ _ (updB 0#64 (nineL.drop 2)) rfl 7 7 rfl _ HG5.out (by decide)).mono ?_
  rintro e v6 ⟨rfl, hgr, hg6⟩
  rw [show joinRest (updB (updB 0#64 (nineL.take 2)) []) M0 7 ^^^ updB 0#64 (nineL.drop 2) = updB 0#64 nineL from by
    have := join_updB (updB (updB 0#64 (nineL.take 2)) []) (nineL.drop 2)
    rw [show (nineL.drop 2).length = 7 from rfl] at this
    rw [this, ← updB_append, ← updB_append]; rfl] at hg6
  have hb14 := below_grown hb13 hgr hb13.size hz
  have HG6 := Lib.hid hg6
  clear HG5 hgr hg6 hb13
  have hsum : (U64 (updB 0#64 nineL) != 11051210869376104954) = false := by have := awake_facts.1; rw [bne, this]; rfl
  go_wp2_with (first
    | (go_at_call 13; refine (num_any _ _).mono ?_; rintro e w' ⟨rfl, rfl⟩)
    | (go_at_call 32; refine (ssum_any _ _ _ _ HG6.out).mono ?_; rintro e w' ⟨rfl, rfl⟩)
    | (go_at_call 33; refine (slen_any _ _ _ _ HG6.out).mono ?_; rintro e w' ⟨rfl, rfl⟩))
  clear hsum
  go_wp2_with fail
  refine (put_negi g _ _ 1 1#64 rfl (-1) _ HG6.out (by decide)).mono ?_
  rintro e v7 ⟨rfl, rfl⟩
  go_wp2_with fail
  refine (put_overi g _ _ 1 1#64 rfl 9223372036854775799 9223372036854775799 rfl _ HG6.out (by decide) (by decide)).mono ?_
  rintro e v7 ⟨rfl, rfl⟩
  go_wp2_with fail
  refine (put_i g _ _ 0 0#64 rfl 9223372036854775798 9223372036854775798 rfl _ HG6.out (by decide)).mono ?_
  rintro e v7 ⟨rfl, hgr, hg7⟩
  have hb15 := below_grown hb14 hgr hb14.size hz
  have HG7 := Lib.hid hg7
  clear HG6 hgr hg7 hb14
  go_wp2_with fail
  have HG8 := Lib.hid ((heap_alloc_old v7 (.cells (vBs [1#8]).toArray 5) (HLT.out _ _ HG7.out)).trans HG7.out)
  have hb16 := hb15.alloc hb15.size (.cells (vBs [1#8]).toArray 5)
  clear HG7 hb15
  refine (write_over g _ _ _ 1 1 _ HG8.out (by decide) (by decide)).mono ?_
  rintro e v8 ⟨rfl, rfl⟩
  go_wp2_with fail
  refine (write_at g _ _ none 0 0 [] _ HG8.out rfl (by decide) (by decide) (N.out _)).mono ?_
  rintro e v9 ⟨rfl, hgr, hg9⟩
  have hb17 := below_grown hb16 hgr hb16.size hz
  have HG9 := Lib.hid hg9
  clear HG8 hgr hg9 hb16
  go_wp2_with (first
    | (go_at_call 13; refine (num_any _ _).mono ?_; rintro e w' ⟨rfl, rfl⟩)
    | (go_at_call 33; refine (slen_any _ _ _ _ HG9.out).mono ?_; rintro e w' ⟨rfl, rfl⟩))
  clear hz
  refine (nine_any _).mono ?_
  rintro e v10 ⟨rfl, hv10⟩
  have hb18 : Below w.heap.size w v10 := by rw [hv10]; exact hb17.alloc hb17.size _
  clear hv10 hb17
  go_wp2_with fail
  refine (write_nil _ _ _ _).mono ?_
  rintro e v11 ⟨rfl, rfl⟩
  go_wp2_with fail
  refine (put_nili 1 1#64 rfl 1 _).mono ?_
  rintro e v11 ⟨rfl, rfl⟩
  go_wp2_with (first
    | (go_at_call 13; refine (num_any _ _).mono ?_; rintro e w' ⟨rfl, rfl⟩)
    | (go_at_call 32; refine (ssum_nil _).mono ?_; rintro e w' ⟨rfl, rfl⟩)
    | (go_at_call 33; refine (slen_nil _).mono ?_; rintro e w' ⟨rfl, rfl⟩))
  go_ret
  exact ⟨rfl, hb18⟩
theorem own : ownKnob Try.prog.godebug = none := by kernel_rfl
theorem laidOut : laidOutB Try.prog = true := by kernel_rfl
set_option maxRecDepth 100000 in
theorem lifted (os : Os) (started : os.Started) (H : Type) (enc : TypeId × Value → H) :
    ReturnsInHanded {} Try.checked os 10 .any (Rows.sumKnownSpec.pre6 enc Try.prog Try.f10 Rows.sumKnownRow.domain false) (Rows.sumKnownSpec.post enc Try.prog Try.f10 false true false false) := by
  refine returnsInHanded_of_change_sized (C := Try.checked) own started (by kernel_rfl) Try.func10
    (ChangeSpec.witness6 (enc := enc) (C := Try.checked) false ⟨#[], #[], []⟩ 8 (by kernel_rfl) (by kernel_rfl) (by kernel_rfl) (by kernel_rfl)) ?_
  intro W base args ds gs before hval0 hW hcnd hsz0 _
  have hsz : (DataW.weightsEach Try.prog (Try.f10.params.toList ++ Rows.sumKnownSpec.plain.varTypes Try.prog) (ds ++ gs)).all (· ≤ reachBytes) = true := hsz0
  clear hsz0
  have hval : ∀ (j : Nat) t v, Try.f10.params[j]? = some t → args[j]? = some v → Value.okWide Try.prog W .any base t v := hval0
  have hW' := hW
  obtain ⟨p, q, hA0, hV, rfl, hfz, hnd⟩ := hW
  have hA : DataW.TrodAll enc Try.prog W 0 (fun _ => true) true Try.f10.params.toList args.toList ds p := hA0
  rw [Try.params10] at hA hval hsz
  obtain ⟨hargs, rfl, rfl⟩ := trodAll_nil hA
  obtain rfl : args = #[] := by cases args; simp_all
  obtain ⟨rfl, rfl⟩ := trodVars_none hV
  clear hA0 hval0
  refine (walk W).mono fun e W' ⟨he, bel⟩ => ?_
  subst he
  exact ⟨_, rfl, _, _, _, [], _, [], hW', trodAll_mk1 (shut_bool Try.underlying4 _), trodAll_mk0, rfl, bel.frame _, fun h => by cases h⟩
theorem over : Rows.sumKnownRow.holds Try.pinned (OpenSpec.ofChange Rows.sumKnownSpec) :=
  OpenClaim.holds_of_wide 10 Try.f10 rfl rfl rfl rfl rfl rfl rfl ⟨rfl, rfl, rfl, rfl, rfl⟩ rfl rfl rfl rfl rfl (by kernel_rfl) Try.func10 (by kernel_rfl)
    (of_decide_eq_true (by kernel_rfl)) (by unfold Func.isWrapper; first | (rw [if_pos (by decide +kernel)]; kernel_rfl) | (rw [if_neg (by decide +kernel)]; exact ⟨rfl, rfl⟩))
    (fun os started H enc _ => lifted os started H enc)
theorem proved : Rows.SumKnownSaid := over
#print axioms proved
end Go.Proofs.Ytdphcmmpkacmfaa.lawSumKnown
