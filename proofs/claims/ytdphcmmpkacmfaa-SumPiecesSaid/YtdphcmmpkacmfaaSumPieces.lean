/-
  Proved: SumPieces answers true for every input: however bytes are cut, their sum, what Update, Join and a stream make of the pieces are one number. No condition.
-/
import Derived.Test.YtdphcmmpkacmfaaLc
import Derived.Test.YtdphcmmpkacmfaaReg
import Derived.Test.YtdphcmmpkacmfaaOpen
namespace Go.Proofs.Ytdphcmmpkacmfaa.lawSumPieces
open Go.ChangeShapes Go.WideShapes Go.ChangeAt Go.RowKit Go.K
set_option linter.unusedVariables false
set_option linter.unusedSimpArgs false
set_option maxRecDepth 100000 in
set_option maxHeartbeats 1000000 in
theorem walk0 (a : Option Addr) (c : Nat) (l : List (BitVec 8)) (i j : Int) (r : BitVec 64) (w : World) (hl : l.length ≤ 140737488351232) (hlc : l.length ≤ c) (hcm : c ≤ maxLen) (hs : Sl w a (vBs l))
   (h1 : -9223372036854775808 ≤ i ∧ i ≤ 9223372036854775807) (h2 : -9223372036854775808 ≤ j ∧ j ≤ 9223372036854775807) :
    Calls Try.prog 8 #[.slice a l.length c, .int .i64 i, .int .i64 j, .int .u64 (U64 r)] w fun e w' => e = .returned (.bool true) ∧ Below w.heap.size w w' := by
  have hpc : ∀ n, Sl w (piece a n c 1) (vBs (l.drop n)) := fun n => by
    have := sl_piece hs n c 1 (by rw [vBs_length]; omega)
    rw [Nat.mul_one] at this
    rw [vBs, List.map_drop]; exact this
  have S1 := Lib.hid (show ∀ lo n W, lo + n ≤ l.length → Below w.heap.size w W → Calls Try.prog 16 #[.slice (piece a lo c 1) n (c - lo)] W fun e w' => e = .returned (.int .u64 (U64 (updB 0#64 ((l.drop lo).take n)))) ∧ Below w.heap.size w w' from
    fun lo n W hn hB => onto (sum_at _ _ _ _ _ (by simp; omega) (by unfold maxLen; omega) (sl_take ((hpc lo).kept hB) n)) hB)
  have S2 := Lib.hid (show ∀ n W, n ≤ l.length → Below w.heap.size w W → Calls Try.prog 16 #[.slice a n c] W fun e w' => e = .returned (.int .u64 (U64 (updB 0#64 (l.take n)))) ∧ Below w.heap.size w w' from
    fun n W hn hB => onto (sum_at _ _ _ _ _ (by simp; omega) (by unfold maxLen; omega) (sl_take (hs.kept hB) n)) hB)
  have U1 := Lib.hid (show ∀ s lo n W, lo + n ≤ l.length → Below w.heap.size w W → Calls Try.prog 19 #[.int .u64 (U64 s), .slice (piece a lo c 1) n (c - lo)] W fun e w' => e = .returned (.int .u64 (U64 (updB s ((l.drop lo).take n)))) ∧ Below w.heap.size w w' from
    fun s lo n W hn hB => onto (update_at s _ _ _ _ _ (by simp; omega) (by unfold maxLen; omega) (sl_take ((hpc lo).kept hB) n)) hB)
  have U2 := Lib.hid (show ∀ s n W, n ≤ l.length → Below w.heap.size w W → Calls Try.prog 19 #[.int .u64 (U64 s), .slice a n c] W fun e w' => e = .returned (.int .u64 (U64 (updB s (l.take n)))) ∧ Below w.heap.size w w' from
    fun s n W hn hB => onto (update_at s _ _ _ _ _ (by simp; omega) (by unfold maxLen; omega) (sl_take (hs.kept hB) n)) hB)
  have HPC := Lib.hid hpc
  have HS := Lib.hid hs
  clear hs hpc
  go_enter Try.func8, Try.ntmps8
  go_wp2_with fail
  refine (awake_any _).mono ?_
  rintro e w1 ⟨rfl, hb1⟩
  go_wp2_with fail
  refine (place_any i l.length _ h1 (by omega)).mono ?_
  rintro e w2 ⟨rfl, rfl⟩
  obtain ⟨p, hp⟩ : ∃ p, p = placeN i l.length := ⟨_, rfl⟩
  have hpl : p ≤ l.length := by rw [hp]; exact place_le _ _
  rw [← hp]
  clear hp
  go_wp2_with fail
  rw [show (l.length : Int) - (p : Int) = ((l.length - p : Nat) : Int) by omega]
  refine (place_any j (l.length - p) _ h2 (by omega)).mono ?_
  rintro e w2 ⟨rfl, rfl⟩
  obtain ⟨q, hq⟩ : ∃ q, q = placeN j (l.length - p) := ⟨_, rfl⟩
  have hql : q ≤ l.length - p := by rw [hq]; exact place_le _ _
  rw [← hq]
  clear hq
  unfold maxLen at hcm
  have i0 : (p : Int) ≤ (c : Int) := by omega
  have i1 : (p : Int) + (q : Int) ≤ (c : Int) := by omega
  have i2 : (p : Int) + (q : Int) ≤ (l.length : Int) := by omega
  have i3 : (p : Int) ≤ (l.length : Int) := by omega
  have i4 : p + q ≤ l.length := by omega
  have hs1 := run_slice_lohi (P := Try.prog) Try.underlying29 bytes1 a l.length c .i64 .i64 (p : Int) ((p : Int) + (q : Int)) p q rfl (by omega) (by omega)
  have hs2 := run_slice_lo (P := Try.prog) Try.underlying29 bytes1 a l.length c .i64 ((p : Int) + (q : Int)) (p + q) (l.length - (p + q)) (by omega) (by omega)
  have hs3 := run_slice_lo (P := Try.prog) Try.underlying29 bytes1 a l.length c .i64 (p : Int) p (l.length - p) rfl (by omega)
  have T1 : l.take l.length = l := List.take_length
  have T2 : ∀ n, (l.drop n).take (l.length - n) = l.drop n := fun n => List.take_of_length_le (by simp)
  go_wp2_with fail
  refine (S2.out p _ (by omega) hb1).mono ?_
  rintro e w2 ⟨rfl, hb2⟩
  go_wp2_with fail
  refine (S1.out p q _ (by omega) hb2).mono ?_
  rintro e w3 ⟨rfl, hb3⟩
  go_wp2_with fail
  refine (S1.out (p + q) (l.length - (p + q)) _ (by omega) hb3).mono ?_
  rintro e w4 ⟨rfl, hb4⟩
  go_wp2_with fail
  refine (S2.out l.length _ (Nat.le_refl _) hb4).mono ?_
  rintro e w5 ⟨rfl, hb5⟩
  clear hb1 hb2 hb3 hb4
  rw [T1]
  have f1 : (U64 (updB (updB 0#64 (l.take p)) (l.drop p)) != U64 (updB 0#64 l)) = false := by rw [← updB_append, List.take_append_drop]; simp
  have f2 : (U64 (updB (updB (updB 0#64 (l.take p)) ((l.drop p).take q)) (l.drop (p + q))) != U64 (updB 0#64 l)) = false := by
    rw [← updB_append, ← updB_append, ← List.drop_drop, List.take_append_drop, List.take_append_drop]; simp
  have f3 : (U64 (updB (updB r (l.take p)) (l.drop p)) != U64 (updB r l)) = false := by rw [← updB_append, List.take_append_drop]; simp
  go_wp2
  refine wp_region_inv 36 (fun W => Below w.heap.size w W) (by kernel_rfl) (by kernel_rfl) (fun _ => hb5.trans ⟨rfl, rfl, rfl, Nat.le_refl _, fun _ _ => rfl⟩) ?_
  simp only [List.take_succ_cons, List.take_zero]
  iterate 36
    apply wpInv_cons
    · rfl
    · intro Wx hw
      go_simp
      first
        | exact ⟨hw, rfl⟩
        | (show Calls _ _ _ _ _; with_reducible exact U1.out _ _ _ _ (by omega) hw)
        | (show Calls _ _ _ _ _; with_reducible exact U2.out _ _ _ (by omega) hw)
    simp only [Act.put, List.setIfInBounds_toArray, List.set_cons_zero, List.set_cons_succ, T1, T2]
  refine wpInv_nil fun W hb6 => ?_
  simp only [List.drop_succ_cons, List.drop_zero]
  clear hb5 hs1 hs2 hs3
  have J1 := Lib.hid (show joinRest (updB 0#64 (l.take p)) M0 q ^^^ updB 0#64 ((l.drop p).take q) = updB 0#64 (l.take (p + q)) by
    have := join_updB (updB 0#64 (l.take p)) ((l.drop p).take q)
    rw [show ((l.drop p).take q).length = q by simp; omega] at this
    rw [this, ← updB_append, List.take_add])
  have J2 := Lib.hid (show joinRest (updB 0#64 (l.take (p + q))) M0 (l.length - (p + q)) ^^^ updB 0#64 (l.drop (p + q)) = updB 0#64 l by
    have := join_updB (updB 0#64 (l.take (p + q))) (l.drop (p + q))
    rw [List.length_drop] at this
    rw [this, ← updB_append, List.take_append_drop])
  have J3 := Lib.hid (show joinRest (updB 0#64 ((l.drop p).take q)) M0 (l.length - (p + q)) ^^^ updB 0#64 (l.drop (p + q)) = updB 0#64 (l.drop p) by
    have := join_updB (updB 0#64 ((l.drop p).take q)) (l.drop (p + q))
    rw [List.length_drop] at this
    rw [this, ← updB_append, ← List.drop_drop, List.take_append_drop])
  have J4 := Lib.hid (show joinRest (updB 0#64 (l.take p)) M0 (l.length - p) ^^^ updB 0#64 (l.drop p) = updB 0#64 l by
    have := join_updB (updB 0#64 (l.take p)) (l.drop p)
    rw [List.length_drop] at this
    rw [this, ← updB_append, List.take_append_drop])
  have J5 := Lib.hid (show joinRest r M0 0 ^^^ 0#64 = r by rw [joinRest]; simp)
  go_wp2_with fail
  rw [show (p : Int) + (q : Int) - (p : Int) = (q : Int) by omega]
  refine (onto (join_any _ _ q _ (by omega)) hb6).mono ?_
  rintro e w7 ⟨rfl, hb7⟩
  rw [J1.out]
  go_wp2_with fail
  rw [show (l.length : Int) - ((p : Int) + (q : Int)) = ((l.length - (p + q) : Nat) : Int) by omega]
  refine (onto (join_any _ _ (l.length - (p + q)) _ (by omega)) hb7).mono ?_
  rintro e w8 ⟨rfl, hb8⟩
  rw [J2.out]
  go_wp2_with fail
  rw [show (l.length : Int) - ((p : Int) + (q : Int)) = ((l.length - (p + q) : Nat) : Int) by omega]
  refine (onto (join_any _ _ (l.length - (p + q)) _ (by omega)) hb8).mono ?_
  rintro e w9 ⟨rfl, hb9⟩
  rw [J3.out]
  go_wp2_with fail
  rw [show (l.length : Int) - (p : Int) = ((l.length - p : Nat) : Int) by omega]
  refine (onto (join_any _ _ (l.length - p) _ (by omega)) hb9).mono ?_
  rintro e w10 ⟨rfl, hb10⟩
  rw [J4.out]
  go_wp2_with fail
  refine (onto (join_any r 0#64 0 _ (by omega)) hb10).mono ?_
  rintro e w11 ⟨rfl, hb11⟩
  rw [J5.out]
  clear hb6 hb7 hb8 hb9 hb10
  go_wp2_with (first
    | (go_at_call 13; refine (num_any _ _).mono ?_; rintro e w' ⟨rfl, rfl⟩)
    | (go_at_call 16; refine (S2.out (p + q) _ (by omega) hb11).mono ?_; rintro e w12 ⟨rfl, hb12⟩)
    | (go_at_call 25; refine (new_any _).mono ?_; rintro e w13 ⟨rfl, hw13⟩))
  have hz := hb12.size
  have hb13 : Below w.heap.size w (w12.alloc (.cells (strRow 0#64 0) 71)) := hb12.alloc hb12.size _
  have hg0 : (w12.alloc (.cells (strRow 0#64 0) 71)).heap[w12.heap.size]? = some (.cells (strRow 0#64 0) 71) := heap_alloc_new _ _
  refine (write_at w12.heap.size 0#64 0 a p c (l.take p) _ hg0 (by simp; omega) (by unfold maxLen; omega) (by omega) (sl_take (HS.out.kept hb13) p)).mono ?_
  rintro e w14 ⟨rfl, hgr, hg1⟩
  have hb14 := below_grown hb13 hgr hb13.size hz
  have HG := Lib.hid hg1
  clear hgr hg0 hg1 hb13 hb11 hb12
  go_wp2_with fail
  rw [show (p : Int) + (q : Int) - (p : Int) = (q : Int) by omega]
  refine (put_any w12.heap.size (updB 0#64 (l.take p)) (0 + p) (updB 0#64 ((l.drop p).take q)) q _ HG.out (by omega)).mono ?_
  rintro e w15 ⟨rfl, hgr, hg1⟩
  rw [J1.out] at hg1
  have hb15 := below_grown hb14 hgr hb14.size hz
  have HG2 := Lib.hid hg1
  clear hgr hg1 hb14 HG
  have hs2 := run_slice_lo (P := Try.prog) Try.underlying29 bytes1 a l.length c .i64 ((p : Int) + (q : Int)) (p + q) (l.length - (p + q)) (by omega) (by omega)
  go_wp2_with fail
  refine (write_at w12.heap.size (updB 0#64 (l.take (p + q))) (0 + p + q) _ (l.length - (p + q)) _ (l.drop (p + q)) _ HG2.out (by simp) (by unfold maxLen; omega) (by omega) ((HPC.out (p + q)).kept hb15)).mono ?_
  rintro e w16 ⟨rfl, hgr, hg1⟩
  rw [← updB_append, List.take_append_drop, show 0 + p + q + (l.length - (p + q)) = l.length by omega] at hg1
  have hb16 := below_grown hb15 hgr hb15.size hz
  have HG3 := Lib.hid hg1
  clear hgr hg1 hb15 HG2 hs2
  go_wp2_with (first
    | (go_at_call 32; refine (ssum_any _ _ _ _ HG3.out).mono ?_; rintro e w' ⟨rfl, rfl⟩)
    | (go_at_call 33; refine (slen_any _ _ _ _ HG3.out).mono ?_; rintro e w' ⟨rfl, rfl⟩))
  go_ret
  exact ⟨rfl, hb16⟩
theorem walk (a : Option Addr) (c : Nat) (l : List (BitVec 8)) (i j : Int) (r : BitVec 64) (w : World) (hs : Sl w a (vBs l)) (hn : l.length ≤ c) (hm : c ≤ 140737488351232) (hz : a = none → l.length = 0 ∧ c = 0)
   (h1 : -9223372036854775808 ≤ i ∧ i ≤ 9223372036854775807) (h2 : -9223372036854775808 ≤ j ∧ j ≤ 9223372036854775807) :
    Calls Try.prog 8 #[.slice a l.length c, .int .i64 i, .int .i64 j, .int .u64 (U64 r)] w fun e w' => e = .returned (.bool true) ∧ Below w.heap.size w w' :=
  walk0 a c l i j r w (by omega) hn (by unfold maxLen; omega) hs h1 h2
theorem own : ownKnob Try.prog.godebug = none := by kernel_rfl
theorem laidOut : laidOutB Try.prog = true := by kernel_rfl
set_option maxRecDepth 100000 in
theorem lifted (os : Os) (started : os.Started) (H : Type) (enc : TypeId × Value → H) :
    ReturnsInHanded {} Try.checked os 8 .any (Rows.sumPiecesSpec.pre6 enc Try.prog Try.f8 Rows.sumPiecesRow.domain false) (Rows.sumPiecesSpec.post enc Try.prog Try.f8 false true false false) := by
  refine returnsInHanded_of_change_sized (C := Try.checked) own started (by kernel_rfl) Try.func8
    (ChangeSpec.witness6 (enc := enc) (C := Try.checked) false ⟨#[], #[.slice none 0 0, .int .i64 0, .int .i64 0, .int .u64 0], []⟩ 8 (by kernel_rfl) (by kernel_rfl) (by kernel_rfl) (by kernel_rfl)) ?_
  intro W base args ds gs before hval0 hW hcnd hsz0 _
  have hsz : (DataW.weightsEach Try.prog (Try.f8.params.toList ++ Rows.sumPiecesSpec.plain.varTypes Try.prog) (ds ++ gs)).all (· ≤ reachBytes) = true := hsz0
  clear hsz0
  have hval : ∀ (j : Nat) t v, Try.f8.params[j]? = some t → args[j]? = some v → Value.okWide Try.prog W .any base t v := hval0
  have hW' := hW
  obtain ⟨p, q, hA0, hV, rfl, hfz, hnd⟩ := hW
  have hA : DataW.TrodAll enc Try.prog W 0 (fun _ => true) true Try.f8.params.toList args.toList ds p := hA0
  rw [Try.params8] at hA hval hsz
  obtain ⟨v0, vs0, d0, ds0, p0, q0, hargs, rfl, rfl, h0, r0⟩ := trodAll_cons hA
  obtain ⟨v1, vs1, d1, ds1, p1, q1, rfl, rfl, rfl, h1, r1⟩ := trodAll_cons r0
  obtain ⟨v2, vs2, d2, ds2, p2, q2, rfl, rfl, rfl, h2, r2⟩ := trodAll_cons r1
  obtain ⟨v3, vs3, d3, ds3, p3, q3, rfl, rfl, rfl, h3, r3⟩ := trodAll_cons r2
  obtain ⟨rfl, rfl, rfl⟩ := trodAll_nil r3
  obtain rfl : args = #[v0, v1, v2, v3] := by cases args; simp_all
  obtain ⟨rfl, rfl⟩ := trodVars_none hV
  obtain ⟨a0, len0, cap0, rfl⟩ := okWide_slice Try.underlying29 (hval 0 29 v0 rfl rfl)
  have k0 := h0
  have lt0 : ∀ x ∈ p0, x.block < W.heap.size := by obtain ⟨m, hm⟩ := k0; exact DataW.trod_lt m _ _ _ hm
  obtain ⟨l0, rfl, s0, n0, m0, z0⟩ := open_bytes Try.underlying29 Try.underlying5 (by kernel_rfl) (by kernel_rfl) h0 hsz (j := 0) rfl rfl
  obtain ⟨a1, rfl, rfl, rfl, w1⟩ := open_int Try.underlying3 (hval 1 3 v1 rfl rfl) h1
  have b1 := i64_of_wf w1
  obtain ⟨a2, rfl, rfl, rfl, w2⟩ := open_int Try.underlying3 (hval 2 3 v2 rfl rfl) h2
  have b2 := i64_of_wf w2
  obtain ⟨a3, rfl, rfl, rfl, w3⟩ := open_int Try.underlying22 (hval 3 22 v3 rfl rfl) h3
  obtain ⟨x3, rfl⟩ := u64_of_wf w3
  clear hA0 hval0
  refine (walk a0 cap0 l0 a1 a2 x3 W s0 n0 m0 z0 b1 b2).mono fun e W' ⟨he, bel⟩ => ?_
  subst he
  exact ⟨_, rfl, _, _, _, [], _, [], hW', trodAll_mk1 (shut_bool Try.underlying4 _), (trodAll_cons_mk (Below.trod laidOut (by kernel_rfl) (of_decide_eq_true (by kernel_rfl)) k0 bel lt0) (trodAll_cons_mk (shut_int Try.underlying3 w1) (trodAll_cons_mk (shut_int Try.underlying3 w2) (trodAll_cons_mk (shut_int Try.underlying22 w3) trodAll_mk0)))), rfl, bel.frame _, fun h => by cases h⟩
theorem over : Rows.sumPiecesRow.holds Try.pinned (OpenSpec.ofChange Rows.sumPiecesSpec) :=
  OpenClaim.holds_of_wide 8 Try.f8 rfl rfl rfl rfl rfl rfl rfl ⟨rfl, rfl, rfl, rfl, rfl⟩ rfl rfl rfl rfl rfl (by kernel_rfl) Try.func8 (by kernel_rfl)
    (of_decide_eq_true (by kernel_rfl)) (by unfold Func.isWrapper; first | (rw [if_pos (by decide +kernel)]; kernel_rfl) | (rw [if_neg (by decide +kernel)]; exact ⟨rfl, rfl⟩))
    (fun os started H enc _ => lifted os started H enc)
theorem proved : Rows.SumPiecesSaid := over
#print axioms proved
end Go.Proofs.Ytdphcmmpkacmfaa.lawSumPieces
