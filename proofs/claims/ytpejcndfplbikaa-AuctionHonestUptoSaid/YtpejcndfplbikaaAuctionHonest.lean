/-
  Whoever bids in a sealed auction just what the thing is worth to them gains no less than by any other bid, or by none.
  Of arguments of bounded bulk (the second form of the statement); no condition beyond the statement's own.
-/
import Derived.Test.YtpejcndfplbikaaNd
import Derived.Deep.CondSized
namespace Go.Proofs.Ytpejcndfplbikaa.lawAuctionHonest
open Go.RowKit Go.K Go.Maps Go.ChangeShapes Go.WideShapes Go.ChangeAt
set_option linter.unusedVariables false
set_option linter.unusedSimpArgs false
theorem bid_plain (r m : Int) (A B : Qs) (w : World) (hA : QsOk w A) (hB : QsOk w B) (hr : 0 ≤ r) (hm : (Lit.int .u64 m).wf = true) :
    Calls Try.prog 31 #[.int .u64 r, A.v, .int .u64 m, B.v] w fun e w' => e = .returned (.tuple #[.bool (bidW r A.l m B.l), .int .u64 (bidP r A.l m B.l), .bool true]) ∧ Below w.heap.size w w' := by
  refine (bid_any r m A B w hA hB hm _ rfl).mono ?_
  rintro e w' ⟨rfl, hb⟩
  obtain ⟨z, hz⟩ := u64_of_wf hm
  obtain ⟨h1, h2, h3⟩ := bid_says r A.l m B.l hr (by rw [hz]; exact U64_lo z) (by rw [hz]; exact U64_hi z) _ rfl
  rw [h1, h2, h3]
  exact ⟨rfl, hb⟩
set_option maxRecDepth 100000 in
set_option maxHeartbeats 4000000 in
theorem walkI (r v o : Int) (hr : 0 ≤ r) (hv : (Lit.int .u64 v).wf = true) (ho : (Lit.int .u64 o).wf = true) (A B : Qs) (w : World) (hA : QsOk w A) (hB : QsOk w B) :
    Calls Try.prog 6 #[.int .u64 r, A.v, .int .u64 v, .int .u64 o, B.v] w fun e w' => e = .returned (.bool true) ∧ Below w.heap.size w w' := by
  have HA := Lib.hid hA
  have HB := Lib.hid hB
  have HV := Lib.hid hv
  have HO := Lib.hid ho
  obtain ⟨hv0, hv1⟩ : 0 ≤ v ∧ v ≤ 18446744073709551615 := by obtain ⟨z, hz⟩ := u64_of_wf hv; rw [hz]; exact ⟨U64_lo z, U64_hi z⟩
  clear hA hB hv ho
  have HK := Lib.hid (fun m V (hm : (Lit.int .u64 m).wf = true) (h : Below w.heap.size w V) => bid_plain r m A B V (HA.out.kept h) (HB.out.kept h) hr hm)
  unfold Qs.v at HK ⊢
  go_enter Try.func6, Try.ntmps6
  go_wp2_with fail
  refine (known_any w).mono ?_
  rintro r1 w1 ⟨rfl, hb⟩
  have HW := Lib.hid hb
  clear hb
  by_cases h0 : v = 0
  · have c0 : (v == 0) = true := by simpa using h0
    clear h0
    go_wp2
    go_ret
    exact ⟨rfl, HW.out⟩
  · have c0 : (v == 0) = false := by simpa using h0
    have hpos : 0 < v := by omega
    clear h0
    go_wp2_with fail
    refine (HK.out v w1 HV.out HW.out).mono ?_
    rintro r2 w2 ⟨rfl, hb⟩
    have HW := Lib.hid (HW.out.trans (hb.mono HW.out.size))
    clear hb
    go_wp2_with fail
    refine (HK.out o w2 HO.out HW.out).mono ?_
    rintro r3 w3 ⟨rfl, hb⟩
    have HW := Lib.hid (HW.out.trans (hb.mono HW.out.size))
    clear hb HK HA HB HV HO
    cases h1 : bidW r A.l v B.l
    · have e1 : bidP r A.l v B.l = 0 := by unfold bidP; rw [h1]; rfl
      rw [e1]
      cases h2 : bidW r A.l o B.l
      · have e2 : bidP r A.l o B.l = 0 := by unfold bidP; rw [h2]; rfl
        rw [e2]
        clear h1 h2 e1 e2
        go_wp2
        go_ret
        exact ⟨rfl, HW.out⟩
      · have h3 := loses_more hpos h1 h2
        clear h1 h2 e1
        generalize bidP r A.l o B.l = p2 at *
        have c3 : decide (p2 ≥ v) = true := decide_eq_true h3
        go_wp2
        go_ret
        exact ⟨by simp, HW.out⟩
    · obtain ⟨h4, h5⟩ := wins_le h1
      cases h2 : bidW r A.l o B.l
      · have e2 : bidP r A.l o B.l = 0 := by unfold bidP; rw [h2]; rfl
        rw [e2]
        clear h1 h2 e2
        generalize bidP r A.l v B.l = p1 at *
        have c3 : decide (p1 > v) = false := decide_eq_false (by omega)
        have h6 : ¬ p1 > v := by omega
        go_wp2
        go_ret
        exact ⟨rfl, HW.out⟩
      · have h3 := wins_same h1 h2
        rw [← h3]
        clear h1 h2 h3
        generalize bidP r A.l v B.l = p1 at *
        have c3 : decide (p1 > v) = false := decide_eq_false (by omega)
        have h6 : ¬ p1 > v := by omega
        have c4 : decide (p1 ≤ p1) = true := decide_eq_true (Int.le_refl _)
        go_wp2
        go_ret
        exact ⟨by simp, HW.out⟩
theorem walk (x0 : BitVec 64) (A : Qs) (x2 x3 : BitVec 64) (B : Qs) (w : World) (hA : QsOk w A) (hB : QsOk w B) :
    Calls Try.prog 6 #[.int .u64 (U64 x0), A.v, .int .u64 (U64 x2), .int .u64 (U64 x3), B.v] w fun e w' => e = .returned (.bool true) ∧ Below w.heap.size w w' :=
  walkI _ _ _ (U64_lo x0) (wf_U64 x2) (wf_U64 x3) A B w hA hB
theorem own : ownKnob Try.prog.godebug = none := by kernel_rfl
theorem laidOut : laidOutB Try.prog = true := by kernel_rfl
set_option maxRecDepth 100000 in
theorem lifted (os : Os) (started : os.Started) (H : Type) (enc : TypeId × Value → H) (F : Stop.Interp) :
    ReturnsInHanded {} Try.checked os 6 .any ((Rows.OpenSpec.upto Rows.auctionHonestSpec).pre6 enc Try.prog Try.f6 Rows.auctionHonestUptoRow.domain false) (((Rows.OpenSpec.upto Rows.auctionHonestSpec).at F).post enc Try.prog Try.f6 false true false false) := by
  refine returnsInHanded_of_cond_sized (C := Try.checked) (s := Rows.OpenSpec.upto Rows.auctionHonestSpec) (k := Rows.uptoSmall) rfl own started (by kernel_rfl) Try.func6
    (OpenSpec.witness (enc := enc) (C := Try.checked) (s := Rows.OpenSpec.upto Rows.auctionHonestSpec) (k := Rows.uptoSmall) rfl false ⟨#[], #[.int .u64 0, .slice none 0 0, .int .u64 0, .int .u64 0, .slice none 0 0], []⟩ 8 (by kernel_rfl) (by kernel_rfl) (by kernel_rfl)
      (x := ([.lit (.int .u64 0), .nil, .lit (.int .u64 0), .lit (.int .u64 0), .nil], [], [])) (by kernel_rfl) rfl (by kernel_rfl)) ?_
  intro W base args ds gs before hval0 hW hcnd hkk hsz0 _
  have hsz : (DataW.weightsEach Try.prog (Try.f6.params.toList ++ Rows.auctionHonestSpec.plain.varTypes Try.prog) (ds ++ gs)).all (· ≤ reachBytes) = true := hsz0
  clear hsz0
  have hval : ∀ (j : Nat) t v, Try.f6.params[j]? = some t → args[j]? = some v → Value.okWide Try.prog W .any base t v := hval0
  have hW' := hW
  obtain ⟨p, q, hA0, hV, rfl, hfz, hnd⟩ := hW
  have hA : DataW.TrodAll enc Try.prog W 0 (fun _ => true) true Try.f6.params.toList args.toList ds p := hA0
  rw [Try.params6] at hA hval hsz
  obtain ⟨v0, vs0, d0, ds0, p0, q0, hargs, rfl, rfl, h0, r0⟩ := trodAll_cons hA
  obtain ⟨v1, vs1, d1, ds1, p1, q1, rfl, rfl, rfl, h1, r1⟩ := trodAll_cons r0
  obtain ⟨v2, vs2, d2, ds2, p2, q2, rfl, rfl, rfl, h2, r2⟩ := trodAll_cons r1
  obtain ⟨v3, vs3, d3, ds3, p3, q3, rfl, rfl, rfl, h3, r3⟩ := trodAll_cons r2
  obtain ⟨v4, vs4, d4, ds4, p4, q4, rfl, rfl, rfl, h4, r4⟩ := trodAll_cons r3
  obtain ⟨rfl, rfl, rfl⟩ := trodAll_nil r4
  obtain rfl : args = #[v0, v1, v2, v3, v4] := by cases args; simp_all
  obtain ⟨rfl, rfl⟩ := trodVars_none hV
  obtain ⟨a0, rfl, rfl, rfl, w0⟩ := open_int Try.underlying22 (hval 0 22 v0 rfl rfl) h0
  obtain ⟨x0, rfl⟩ := u64_of_wf w0
  have k1 := h1
  have lt1 : ∀ x ∈ p1, x.block < W.heap.size := by obtain ⟨m, hm⟩ := k1; exact DataW.trod_lt m _ _ _ hm
  obtain ⟨c1, rfl, n1⟩ := open_q64 (hval 1 58 v1 rfl rfl) h1 hkk (j := 1) rfl
  obtain ⟨a2, rfl, rfl, rfl, w2⟩ := open_int Try.underlying22 (hval 2 22 v2 rfl rfl) h2
  obtain ⟨x2, rfl⟩ := u64_of_wf w2
  obtain ⟨a3, rfl, rfl, rfl, w3⟩ := open_int Try.underlying22 (hval 3 22 v3 rfl rfl) h3
  obtain ⟨x3, rfl⟩ := u64_of_wf w3
  have k4 := h4
  have lt4 : ∀ x ∈ p4, x.block < W.heap.size := by obtain ⟨m, hm⟩ := k4; exact DataW.trod_lt m _ _ _ hm
  obtain ⟨c4, rfl, n4⟩ := open_q64 (hval 4 58 v4 rfl rfl) h4 hkk (j := 4) rfl
  clear hA0 hval0
  refine (walk x0 c1 x2 x3 c4 W n1 n4).mono fun e W' ⟨he, bel⟩ => ?_
  subst he
  exact ⟨_, rfl, _, _, _, [], _, [], hW', trodAll_mk1 (shut_bool Try.underlying4 _), (trodAll_cons_mk (shut_int Try.underlying22 w0) (trodAll_cons_mk (Below.trod laidOut (by kernel_rfl) (of_decide_eq_true (by kernel_rfl)) k1 bel lt1) (trodAll_cons_mk (shut_int Try.underlying22 w2) (trodAll_cons_mk (shut_int Try.underlying22 w3) (trodAll_cons_mk (Below.trod laidOut (by kernel_rfl) (of_decide_eq_true (by kernel_rfl)) k4 bel lt4) trodAll_mk0))))), rfl, bel.frame _, fun h => by cases h⟩
theorem over : Rows.auctionHonestUptoRow.holds Try.pinned (Rows.OpenSpec.upto Rows.auctionHonestSpec) :=
  OpenClaim.holds_of_cond 6 Try.f6 rfl rfl rfl rfl rfl rfl rfl ⟨rfl, rfl, rfl, rfl, rfl⟩ rfl rfl rfl rfl rfl (by kernel_rfl) Try.func6 (by kernel_rfl)
    (of_decide_eq_true (by kernel_rfl)) (by unfold Func.isWrapper; first | (rw [if_pos (by decide +kernel)]; kernel_rfl) | (rw [if_neg (by decide +kernel)]; exact ⟨rfl, rfl⟩))
    (fun os started H enc _ F => lifted os started H enc F)
theorem proved : Rows.AuctionHonestUptoSaid := over
#print axioms proved
end Go.Proofs.Ytpejcndfplbikaa.lawAuctionHonest
