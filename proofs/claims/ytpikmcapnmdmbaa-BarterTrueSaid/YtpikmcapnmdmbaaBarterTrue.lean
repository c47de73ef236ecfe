/-
  No entry gets by other wishes what it would rather have than what it gets by its true ones.
  No condition beyond the statement's own.
-/
import Derived.Test.YtpikmcapnmdmbaaWq
import Derived.Test.YtpikmcapnmdmbaaWp
import Derived.Test.YtpikmcapnmdmbaaYb
import Derived.Test.YtpikmcapnmdmbaaWo
namespace Go.Proofs.Ytpikmcapnmdmbaa.lawBarterTrue
open Go.RowKit Go.K Go.Maps Go.ChangeShapes Go.WideShapes Go.ChangeAt
set_option linter.unusedVariables false
set_option linter.unusedSimpArgs false
theorem lenOf_slice' (a : Option Addr) (n c : Nat) : lenOf (.slice a n c) = n := rfl
set_option maxRecDepth 100000 in
set_option maxHeartbeats 2000000 in
theorem walk (it : Wl) (wa : Option Addr) (wc : Nat) (ws : List Wl) (who : Int) (lie : Wl) (w : World) (hit : WlOk w it) (hws : WsOk w wa ws) (hwm : ws.length ≤ 17592186043904) (hwn : wa = none → ws.length = 0 ∧ wc = 0)
    (hwho : -9223372036854775808 ≤ who ∧ who ≤ 9223372036854775807) (hlie : WlOk w lie) :
    Calls Try.prog 6 #[it.v, .slice wa ws.length wc, .int .i64 who, lie.v] w fun r w' => r = .returned (.bool true) ∧ Below w.heap.size w w' := by
  obtain ⟨ia, ic, is⟩ := it
  obtain ⟨la, lc, ll⟩ := lie
  have him := hit.mx
  have hlm := hlie.mx
  unfold Wl.v
  simp only at him hlm ⊢
  have HI := Lib.hid hit
  have HW := Lib.hid hws
  have HL := Lib.hid hlie
  have HWK := Lib.hid (show (Lit.int .i64 who).wf = true from WalkArith.wf_i64 hwho)
  clear hit hws hlie hwn hwho
  go_enter Try.func6, Try.ntmps6
  go_wp2_with fail
  refine (awake_any _).mono ?_
  rintro r0 w1 ⟨rfl, hb⟩
  have HB1 := Lib.hid hb
  clear hb
  have K11 := Lib.hid (many_any ia ic is wa wc ws w1 him hwm (HW.out.kept HB1.out))
  go_wp2_with fail
  refine K11.out.mono ?_
  rintro r0 w2 ⟨⟨b, rfl, hb⟩, rfl⟩
  clear K11
  cases b with
  | true =>
    go_wp2
    go_ret
    exact ⟨rfl, HB1.out⟩
  | false =>
    have htot := hb rfl
    have hil : is.length ≤ 3000 := by omega
    have hwl : ws.length ≤ 3000 := by omega
    have HTL := Lib.hid (show ∀ y ∈ ws, y.l.length ≤ 1000000 from fun y hy => by have := total_le y hy; omega)
    clear hb htot
    by_cases hll : ll.length > 3000
    · have t0 : decide ((ll.length : Int) > 3000) = true := by simp; omega
      go_wp2
      go_ret
      exact ⟨rfl, HB1.out⟩
    have t0 : decide ((ll.length : Int) > 3000) = false := decide_eq_false (by omega)
    by_cases hi0 : is.length = 0
    · have t1 : ((is.length : Int) == 0) = true := beq_iff_eq.2 (by omega)
      go_wp2
      go_ret
      exact ⟨rfl, HB1.out⟩
    have t1 : ((is.length : Int) == 0) = false := beq_eq_false_iff_ne.2 (by omega)
    -- the two lists lent, and Clear of them
    have K13 := Lib.hid (fun V (h : Below w.heap.size w V) => lent_any2 ia ic is V (by omega) (HI.out.sl.below h HI.out.sl.lt) HI.out.nil HI.out.wf)
    have K13L := Lib.hid (fun V (h : Below w.heap.size w V) => lent_any2 la lc ll V (by omega) (HL.out.sl.below h HL.out.sl.lt) HL.out.nil HL.out.wf)
    have K14 := Lib.hid (fun V (h : Below w.heap.size w V) => lentAll_any wa wc ws V (by omega) (HW.out.kept h) HTL.out)
    have HLEN := Lib.hid (show ∀ ms : List Wl, ms.map Wl.l = ws.map Wl.l → ms.length = ws.length from fun ms h => by have := congrArg List.length h; simpa using this)
    have him6 : is.length ≤ 1000000 := by omega
    have HIL6 := Lib.hid him6
    clear him6 hll
    go_wp2_with fail
    refine (K13.out _ HB1.out).mono ?_
    rintro r0 w3 ⟨ya, yc, rfl, hy, hb⟩
    have HB3 := Lib.hid (HB1.out.trans (hb.mono HB1.out.size))
    have HY := Lib.hid hy
    clear hy hb
    clear t0 t1
    go_wp2_with fail
    refine (K14.out _ HB3.out).mono ?_
    rintro r0 w4 ⟨a4, c4, ms, rfl, hml, hms, hb⟩
    have HB4 := Lib.hid (HB3.out.trans (hb.mono HB3.out.size))
    have HY4 := Lib.hid (HY.out.below hb)
    have HMS := Lib.hid hms
    have HML := Lib.hid hml
    have HMN := Lib.hid (HLEN.out ms hml)
    clear hb hms hml HY
    go_wp2_with fail
    refine (clear_ans HIL6.out HY4.out.ok.sl HI.out.wf HMS.out.ok HMN.out).mono ?_
    rintro r0 w5 ⟨s3, s4, s5, rfl, hans⟩
    rcases hans with ⟨⟨hr2, hno⟩ | ⟨hm, cs, gs, D, g, G, vc, B, hr2, hrun, hall, hgot, hgr, hg, hgB, hcy, hcr⟩, hb⟩
    · simp only [Ending.returned.injEq, Value.tuple.injEq, Array.mk.injEq, List.cons.injEq] at hr2
      obtain ⟨rfl, rfl, rfl, _⟩ := hr2
      have HB5 := Lib.hid (HB4.out.trans (hb.mono HB4.out.size))
      clear hno hb
      go_wp2
      go_ret
      exact ⟨rfl, HB5.out⟩
    · simp only [Ending.returned.injEq, Value.tuple.injEq, Array.mk.injEq, List.cons.injEq] at hr2
      obtain ⟨rfl, rfl, rfl, _⟩ := hr2
      rw [HML.out] at hrun
      rw [HMN.out] at hm
      have HB5 := Lib.hid (HB4.out.trans (hb.mono HB4.out.size))
      have HM := Lib.hid hm
      have HRUN := Lib.hid hrun
      have HALL := Lib.hid hall
      have HGOT := Lib.hid hgot
      have HGR := Lib.hid hgr
      have hgl := lt_row hgr
      have HGL := Lib.hid hgl
      have HNL := Lib.hid (show ws.length = is.length from hm.1.symm)
      clear hrun hm hall hgot hgr hb hg hgB hcy hcr hgl
      have hb0 : ((is.length : Int) != (is.length : Int)) = false := by simp
      have hpos : 0 < is.length := by omega
      have K25 := Lib.hid (fun V => round_any who is.length V HWK.out hpos (by omega))
      have hrl := rnd_lt who hpos
      generalize rnd who is.length = k at K25 hrl
      go_wp2_with fail
      refine (K25.out _).mono ?_
      rintro r0 w6 ⟨rfl, rfl⟩
      clear hb0 K25 hpos
      go_wp2_with fail
      refine (K14.out _ HB5.out).mono ?_
      rintro r0 w7 ⟨a7, c7, ms7, rfl, hml, hms, hb⟩
      have HB7 := Lib.hid (HB5.out.trans (hb.mono HB5.out.size))
      have HGR7 := Lib.hid (row_kept HGR.out hb)
      have HMS7 := Lib.hid hms
      have HML7 := Lib.hid hml
      have HMN7 := Lib.hid (HLEN.out ms7 hml)
      have HSZ7 := Lib.hid hb.size
      clear hb hms hml K14
      go_wp2_with fail
      refine (K13L.out _ HB7.out).mono ?_
      rintro r0 w8 ⟨ya8, yc8, rfl, hy, hb⟩
      have HB8 := Lib.hid (HB7.out.trans (hb.mono HB7.out.size))
      have HGR8 := Lib.hid (row_kept HGR7.out hb)
      have HMS8 := Lib.hid (HMS7.out.below hb)
      have HY8 := Lib.hid hy
      have HSZ8 := Lib.hid hb.size
      clear hb hy K13L
      obtain ⟨go, cur, hga, hgo, hgr8, hcs, hmc, hset⟩ := HMS8.out.set (i := k) (by rw [HMN7.out, HNL.out]; exact hrl) HY8.out
      have HSET := Lib.hid hset
      have HGO := Lib.hid hgo
      clear hset hgo
      subst hga
      have i0 : (k : Int) < (ws.length : Int) := by rw [HNL.out]; omega
      have i1 : (k : Int) < (is.length : Int) := by omega
      go_wp2_with ((with_reducible refine at_store_op ?_); refine wpList_store_lit 22 go k (cur.toList.take k ++ [Value.slice ya8 ll.length yc8] ++ cur.toList.drop (k + 1)).toArray (.slice ya8 ll.length yc8) hgr8 sz22 hcs rfl rfl ?_ ?_ ?_; exact rfl; exact rfl; intro w9 hp9)
      have HB9 := Lib.hid (hp9.below HB8.out HB8.out.size (Nat.le_trans HB5.out.size HGO.out))
      have HGR9 := Lib.hid (hp9.row HGR8.out (fun e => by have h1 := HGO.out; have h2 := HGL.out; omega))
      have HWS9 := Lib.hid (HSET.out w9 hp9)
      have HWN9 := Lib.hid (show (ms7.set k ⟨ya8, yc8, ll⟩).length = ws.length by rw [List.length_set, HMN7.out])
      have HWL9 := Lib.hid (show (ms7.set k ⟨ya8, yc8, ll⟩).map Wl.l = (ws.map Wl.l).set k ll by rw [List.map_set, HML7.out])
      clear hp9 hgr8 hcs hmc
      generalize ms7.set k ⟨ya8, yc8, ll⟩ = ms9 at HWS9 HWN9 HWL9
      go_wp2_with fail
      refine (K13.out _ HB9.out).mono ?_
      rintro r0 w10 ⟨ya10, yc10, rfl, hy, hb⟩
      have HB10 := Lib.hid (HB9.out.trans (hb.mono HB9.out.size))
      have HGR10 := Lib.hid (row_kept HGR9.out hb)
      have HWS10 := Lib.hid (HWS9.out.kept hb)
      have HY10 := Lib.hid hy
      clear hb hy K13
      go_wp2_with fail
      refine (clear_ans HIL6.out HY10.out.ok.sl HI.out.wf HWS10.out HWN9.out).mono ?_
      rintro r0 w11 ⟨s3, s4, s5, rfl, hans⟩
      rcases hans with ⟨⟨hr2, hno⟩ | ⟨hm, cs', gs', D', g', G', vc', B', hr2, hrun, hall, hgot, hgr, hg, hgB, hcy, hcr⟩, hb⟩
      · rw [HWN9.out] at hno
        exact absurd HM.out hno
      · simp only [Ending.returned.injEq, Value.tuple.injEq, Array.mk.injEq, List.cons.injEq] at hr2
        obtain ⟨rfl, rfl, rfl, _⟩ := hr2
        rw [HWL9.out] at hrun
        have HB11 := Lib.hid (HB10.out.trans (hb.mono HB10.out.size))
        have HGR11 := Lib.hid (row_kept HGR10.out hb)
        have HGN11 := Lib.hid hgr
        have hh := honest HM.out.2.1 HRUN.out HALL.out HGOT.out hrun hall hgot k hrl (fun j hj => by rw [List.getD_eq_getElem?_getD, List.getElem?_set_ne (fun e => hj e.symm), ← List.getD_eq_getElem?_getD])
        have hkw : k < ws.length := by rw [HNL.out]; exact hrl
        have K16 := Lib.hid (fun V (h : Below w11.heap.size w11 V) => better_any ia ic is wa wc ws k (G' k) (G k) V HIL6.out (HI.out.sl.below (HB11.out.trans (h.mono HB11.out.size)) HI.out.sl.lt) (HW.out.kept (HB11.out.trans (h.mono HB11.out.size))) hkw hrl HM.out)
        have K20 := Lib.hid (fun V (h : Below w11.heap.size w11 V) => told_any ia ic is wa wc ws k (G' k) (G k) V HIL6.out (HI.out.sl.below (HB11.out.trans (h.mono HB11.out.size)) HI.out.sl.lt) HI.out.wf (HW.out.kept (HB11.out.trans (h.mono HB11.out.size))) hkw hrl HM.out)
        rw [bscan_eq HM.out.2.1 hrl (G' k) (G k) ws[k].l [] (fun j hj => by cases hj) (fun j hj => by cases hj)] at K20
        rw [show ordAcc is k ws[k].l [] ++ [k] = ord is ws[k].l k from rfl] at K20
        rw [ws_getD ws k hkw] at hh
        rw [hh] at K16 K20
        have z1 := tabI_cell HGR11.out k hrl
        have z2 := tabI_cell HGN11.out k hrl
        have hb0 : ((is.length : Int) != (is.length : Int)) = false := by simp
        clear hb hrun hall hgot hgr hg hgB hcy hcr hm hh
        generalize G k = gk at z1 K16 K20
        generalize G' k = gk' at z2 K16 K20
        have hd := Below.refl w11.heap.size w11
        have hw1 : Below w11.heap.size w11 w11.drew := below_drawn hd _
        go_wp2
        go_region_held3 (fun V => V.cell? ⟨g, k, none⟩ = some (.int .i64 gk) ∧ V.cell? ⟨g', k, none⟩ = some (.int .i64 gk')) (go_keep)
          ((go_at_call 16; (with_reducible refine (K16.out _ hw1).mono ?_); rintro r1 y4 ⟨rfl, hb1⟩; have c0 := below_cell hb1 z1; have c1 := below_cell hb1 z2))
        have HB12 := Lib.hid (hw1.trans (hb1.mono hw1.size))
        clear hw1 hd
        have hw2 : Below w11.heap.size w11 y4.drew := below_drawn HB12.out _
        go_wp2
        go_region_held3 (fun V => V.cell? ⟨g, k, none⟩ = some (.int .i64 gk) ∧ V.cell? ⟨g', k, none⟩ = some (.int .i64 gk')) (go_keep)
          ((go_at_call 20; (with_reducible refine (K20.out _ hw2).mono ?_); rintro r2 y5 ⟨rfl, hb2⟩; have d0 := below_cell hb2 c0; have d1 := below_cell hb2 c1))
        have HB13 := Lib.hid (hw2.trans (hb2.mono hw2.size))
        clear hw2 hb1 hb2
        go_wp2
        go_ret
        exact ⟨rfl, HB11.out.trans (HB13.out.mono HB11.out.size)⟩
theorem own : ownKnob Try.prog.godebug = none := by kernel_rfl
theorem laidOut : laidOutB Try.prog = true := by kernel_rfl
set_option maxRecDepth 100000 in
theorem lifted (os : Os) (started : os.Started) (H : Type) (enc : TypeId × Value → H) :
    ReturnsInHanded {} Try.checked os 6 .any (Rows.barterTrueSpec.pre6 enc Try.prog Try.f6 Rows.barterTrueRow.domain false) (Rows.barterTrueSpec.post enc Try.prog Try.f6 false true false false) := by
  refine returnsInHanded_of_change_sized (C := Try.checked) own started (by kernel_rfl) Try.func6
    (ChangeSpec.witness6 (enc := enc) (C := Try.checked) false ⟨#[], #[.slice none 0 0, .slice none 0 0, .int .i64 0, .slice none 0 0], []⟩ 8 (by kernel_rfl) (by kernel_rfl) (by kernel_rfl) (by kernel_rfl)) ?_
  intro W base args ds gs before hval0 hW hcnd hsz0 _
  have hsz : (DataW.weightsEach Try.prog (Try.f6.params.toList ++ Rows.barterTrueSpec.plain.varTypes Try.prog) (ds ++ gs)).all (· ≤ reachBytes) = true := hsz0
  clear hsz0
  have hval : ∀ (j : Nat) t v, Try.f6.params[j]? = some t → args[j]? = some v → Value.okWide Try.prog W .any base t v := hval0
  have hW' := hW
  obtain ⟨p, q, hA0, hV, rfl, hfz, hnd⟩ := hW
  have hA : DataW.TrodAll enc Try.prog W 0 (fun _ => true) true Try.f6.params.toList args.toList ds p := hA0
  rw [Try.params6] at hA hval hsz
  obtain ⟨v0, vs0, d0, ds0, p0, q0, hargs, rfl, rfl, h0, r0⟩ := trodAll_cons hA
  obtain ⟨v1, vs1, d1, ds1, p1, q1, rfl, rfl, rfl, h1, r1⟩ := trodAll_cons r0
  obtain ⟨v2, vs2, d2, ds2, p2, q2, rfl, rfl, rfl, h2, r2⟩ := trodAll_cons r1
  obtain ⟨v3, vs3, d3, ds3, p3, q3, rfl, rfl, rfl, h3, r3⟩ := trodAll_cons r2
  obtain ⟨rfl, rfl, rfl⟩ := trodAll_nil r3
  obtain rfl : args = #[v0, v1, v2, v3] := by cases args; simp_all
  obtain ⟨rfl, rfl⟩ := trodVars_none hV
  have k0 := h0
  have lt0 : ∀ x ∈ p0, x.block < W.heap.size := by obtain ⟨m, hm⟩ := k0; exact DataW.trod_lt m _ _ _ hm
  obtain ⟨c0, rfl, n0⟩ := open_wl (hval 0 22 v0 rfl rfl) h0 hsz (j := 0) rfl rfl
  have k1 := h1
  have lt1 : ∀ x ∈ p1, x.block < W.heap.size := by obtain ⟨m, hm⟩ := k1; exact DataW.trod_lt m _ _ _ hm
  obtain ⟨a1, cap1, l1, rfl, n1, m1, z1⟩ := open_wls (hval 1 23 v1 rfl rfl) h1 hsz (j := 1) rfl rfl
  obtain ⟨a2, rfl, rfl, rfl, w2⟩ := open_int Try.underlying3 (hval 2 3 v2 rfl rfl) h2
  have b2 := i64_of_wf w2
  have k3 := h3
  have lt3 : ∀ x ∈ p3, x.block < W.heap.size := by obtain ⟨m, hm⟩ := k3; exact DataW.trod_lt m _ _ _ hm
  obtain ⟨c3, rfl, n3⟩ := open_wl (hval 3 22 v3 rfl rfl) h3 hsz (j := 3) rfl rfl
  clear hA0 hval0
  refine (walk c0 a1 cap1 l1 a2 c3 W n0 n1 m1 z1 b2 n3).mono fun e W' ⟨he, bel⟩ => ?_
  subst he
  exact ⟨_, rfl, _, _, _, [], _, [], hW', trodAll_mk1 (shut_bool Try.underlying4 _), (trodAll_cons_mk (Below.trod laidOut (by kernel_rfl) (of_decide_eq_true (by kernel_rfl)) k0 bel lt0) (trodAll_cons_mk (Below.trod laidOut (by kernel_rfl) (of_decide_eq_true (by kernel_rfl)) k1 bel lt1) (trodAll_cons_mk (shut_int Try.underlying3 w2) (trodAll_cons_mk (Below.trod laidOut (by kernel_rfl) (of_decide_eq_true (by kernel_rfl)) k3 bel lt3) trodAll_mk0)))), rfl, bel.frame _, fun h => by cases h⟩
theorem over : Rows.barterTrueRow.holds Try.pinned (OpenSpec.ofChange Rows.barterTrueSpec) :=
  OpenClaim.holds_of_wide 6 Try.f6 rfl rfl rfl rfl rfl rfl rfl ⟨rfl, rfl, rfl, rfl, rfl⟩ rfl rfl rfl rfl rfl (by kernel_rfl) Try.func6 (by kernel_rfl)
    (of_decide_eq_true (by kernel_rfl)) (by unfold Func.isWrapper; first | (rw [if_pos (by decide +kernel)]; kernel_rfl) | (rw [if_neg (by decide +kernel)]; exact ⟨rfl, rfl⟩))
    (fun os started H enc _ => lifted os started H enc)
theorem proved : Rows.BarterTrueSaid := over
#print axioms proved
end Go.Proofs.Ytpikmcapnmdmbaa.lawBarterTrue
