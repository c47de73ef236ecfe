/-
  With the entries in any other order each gets the same item.
  No condition beyond the statement's own.
-/
import Derived.Test.YtpikmcapnmdmbaaWr
import Derived.Test.YtpikmcapnmdmbaaYb
import Derived.Deep.CondSized
namespace Go.Proofs.Ytpikmcapnmdmbaa.lawBarterOrder
open Go.RowKit Go.K Go.Maps Go.ChangeShapes Go.WideShapes Go.ChangeAt
set_option linter.unusedVariables false
set_option linter.unusedSimpArgs false
set_option maxRecDepth 100000 in
set_option maxHeartbeats 2000000 in
theorem walk (it : Wl) (wa : Option Addr) (wc : Nat) (ws : List Wl) (pk : Wl) (w : World) (hit : WlOk w it) (hws : WsOk w wa ws) (hwm : ws.length ≤ 17592186043904) (hwn : wa = none → ws.length = 0 ∧ wc = 0)
    (hpk : WlOk w pk) :
    Calls Try.prog 4 #[it.v, .slice wa ws.length wc, pk.v] w fun r w' => r = .returned (.bool true) ∧ Below w.heap.size w w' := by
  obtain ⟨ia, ic, is⟩ := it
  obtain ⟨la, lc, ll⟩ := pk
  have him := hit.mx
  have hlm := hpk.mx
  unfold Wl.v
  simp only at him hlm ⊢
  have HI := Lib.hid hit
  have HW := Lib.hid hws
  have HL := Lib.hid hpk
  clear hit hws hpk hwn
  go_enter Try.func4, Try.ntmps4
  go_wp2_with fail
  refine (awake_any _).mono ?_
  rintro r0 w1 ⟨rfl, hb⟩
  have HB1 := Lib.hid hb
  clear hb
  have K11 := Lib.hid (many_any ia ic is wa wc ws w1 him hwm (HW.out.kept HB1.out))
  go_wp2_with fail
  refine K11.out.mono ?_
  rintro r0 w2 ⟨⟨b, rfl, hb⟩, rfl⟩
  clear K11
  cases b with
  | true =>
    go_wp2
    go_ret
    exact ⟨rfl, HB1.out⟩
  | false =>
    have htot := hb rfl
    have hil : is.length ≤ 3000 := by omega
    have hwl : ws.length ≤ 3000 := by omega
    have HTL := Lib.hid (show ∀ y ∈ ws, y.l.length ≤ 1000000 from fun y hy => by have := total_le y hy; omega)
    clear hb htot
    -- the two lists lent, and Clear of them
    have K13 := Lib.hid (fun V (h : Below w.heap.size w V) => lent_any2 ia ic is V (by omega) (HI.out.sl.below h HI.out.sl.lt) HI.out.nil HI.out.wf)
    have K14 := Lib.hid (fun V (h : Below w.heap.size w V) => lentAll_any wa wc ws V (by omega) (HW.out.kept h) HTL.out)
    have HLEN := Lib.hid (show ∀ ms : List Wl, ms.map Wl.l = ws.map Wl.l → ms.length = ws.length from fun ms h => by have := congrArg List.length h; simpa using this)
    have him6 : is.length ≤ 1000000 := by omega
    have HIL6 := Lib.hid him6
    clear him6
    go_wp2_with fail
    refine (K13.out _ HB1.out).mono ?_
    rintro r0 w3 ⟨ya, yc, rfl, hy, hb⟩
    have HB3 := Lib.hid (HB1.out.trans (hb.mono HB1.out.size))
    have HY := Lib.hid hy
    clear hy hb
    go_wp2_with fail
    refine (K14.out _ HB3.out).mono ?_
    rintro r0 w4 ⟨a4, c4, ms, rfl, hml, hms, hb⟩
    have HB4 := Lib.hid (HB3.out.trans (hb.mono HB3.out.size))
    have HY4 := Lib.hid (HY.out.below hb)
    have HMS := Lib.hid hms
    have HML := Lib.hid hml
    have HMN := Lib.hid (HLEN.out ms hml)
    clear hb hms hml HY
    go_wp2_with fail
    refine (clear_ans HIL6.out HY4.out.ok.sl HI.out.wf HMS.out.ok HMN.out).mono ?_
    rintro r0 w5 ⟨s3, s4, s5, rfl, hans⟩
    rcases hans with ⟨⟨hr2, hno⟩ | ⟨hm, cs, gs, D, g, G, vc, B, hr2, hrun, hall, hgot, hgr, hg, hgB, hcy, hcr⟩, hb⟩
    · simp only [Ending.returned.injEq, Value.tuple.injEq, Array.mk.injEq, List.cons.injEq] at hr2
      obtain ⟨rfl, rfl, rfl, _⟩ := hr2
      have HB5 := Lib.hid (HB4.out.trans (hb.mono HB4.out.size))
      clear hno hb
      go_wp2
      go_ret
      exact ⟨rfl, HB5.out⟩
    · simp only [Ending.returned.injEq, Value.tuple.injEq, Array.mk.injEq, List.cons.injEq] at hr2
      obtain ⟨rfl, rfl, rfl, _⟩ := hr2
      rw [HML.out] at hrun
      rw [HMN.out] at hm
      have HB5 := Lib.hid (HB4.out.trans (hb.mono HB4.out.size))
      have HM := Lib.hid hm
      have HRUN := Lib.hid hrun
      have HALL := Lib.hid hall
      have HGOT := Lib.hid hgot
      have HGR := Lib.hid hgr
      have hgl := lt_row hgr
      have HGL := Lib.hid hgl
      have HNL := Lib.hid (show ws.length = is.length from hm.1.symm)
      clear hrun hm hall hgot hgr hb hg hgB hcy hcr hgl HMS HML HMN HY4 K13 K14
      have hb0 : ((is.length : Int) != (is.length : Int)) = false := by simp
      go_wp2
      -- all
      go_loopw [10, 11] (fun v i wr => ∃ (k : Nat) (v' : Value), v' = v ∧ k ≤ is.length ∧ i = .int .i64 k ∧ wr.ownsRow w5.heap.size 3 1 v' k (vN (List.range k)) ∧ Below w5.heap.size w5 wr) (fun _ i _ => is.length - (intOf i).toNat)
      case atStart => exact ⟨0, _, rfl, by omega, rfl, World.ownsRow_nil _ _ _ _, Below.refl _ _⟩
      case round =>
        obtain ⟨k, v, hv, hk, rfl, ho, hb⟩ := hrel
        subst hv
        have HO := Lib.hid ho
        have HB := Lib.hid hb
        clear ho hb
        by_cases hlt : k < is.length
        · have t0 : decide ((k : Int) < (is.length : Int)) = true := by simp; omega
          have h64 : k + 1 ≤ maxLen := by unfold maxLen; omega
          have hbz : (k + 1) * 8 ≤ 140737488355328 := by omega
          have hbs : w5.heap.size ≤ (wr.alloc (.cells #[.int .i64 (k : Int)] 3)).heap.size := (HB.out.alloc HB.out.size _).size
          go_wp2_with (at_builtin; refine wpList_append_sl rfl _ _ 22 rfl w5.heap.size 3 (.int .i64 0) 1 8 Try.underlying22 infoI (by rfl) (by decide) v k (vN (List.range k)) (by rfl) (HO.out.alloc _) (some ⟨wr.heap.size, 0, none⟩) 1 1 (vN [k]) (by rfl) (fun h => by cases h) (by rfl) (sl_new _ _ _ _) (oneCell_vN _) h64 hbz hbs ?a8)
          intro v2 w6 ho2 hg2
          have HO2 := Lib.hid ho2
          have HB2 := Lib.hid ((HB.out.alloc HB.out.size (.cells #[.int .i64 (k : Int)] 3)).grown hg2 hbs (fun q hq => (HO.out.lt q hq).1))
          clear ho2 hg2
          go_wp2
          go_roundw
          case rel => exact ⟨k + 1, _, rfl, by omega, by go_num, by rw [vN_range_succ]; exact HO2.out, HB2.out⟩
          case measure => simp [intOf]; omega
        · have t0 : decide ((k : Int) < (is.length : Int)) = false := by simp; omega
          have hke : k = is.length := by omega
          have HA := Lib.hid (show wr.ownsRow w5.heap.size 3 1 v is.length (vN (List.range is.length)) by rw [← hke]; exact HO.out)
          clear hke HO
          obtain ⟨xa, xc, rfl, _, _, _, hxn⟩ := owns_len HA.out
          have HXN := Lib.hid hxn
          clear hxn
          obtain ⟨w6, h6⟩ : ∃ W, W = wr := ⟨_, rfl⟩
          subst h6
          have HB6 := Lib.hid (HB5.out.trans (HB.out.mono HB5.out.size))
          have K18 := Lib.hid (show Calls Try.prog 18 #[.slice xa is.length xc, .slice la ll.length lc] w6 fun r w' => ∃ (out : List Nat) (ad : Option Addr) (cap : Nat), r = .returned (.slice ad is.length cap) ∧ out.Perm (List.range is.length) ∧ w'.ownsRow w6.heap.size 3 1 (.slice ad is.length cap) is.length (vN out) ∧ Below w6.heap.size w6 w' from by
            have h := handed_any xa xc (List.range is.length) la lc ll w6 (by rw [List.length_range]; exact HIL6.out) hlm (sl_owns HA.out) (fun e => by rw [List.length_range]; have := HXN.out e; omega) (HL.out.sl.below HB6.out HL.out.sl.lt) HL.out.wf
            rw [List.length_range] at h
            exact h)
          go_wp2_with fail
          refine K18.out.mono ?_
          rintro r0 w7 ⟨od, oa, oc, rfl, hperm, hoo, hb7⟩
          have HT := Lib.hid (Turn.of hperm)
          have HOL := Lib.hid (Turn.of hperm).len
          have HOO := Lib.hid hoo
          have HB7 := Lib.hid (HB.out.trans (hb7.mono HB.out.size))
          clear hperm hoo hb7 K18 HA HXN
          go_wp2
          go_loopw [13, 14, 15] (fun v13 v14 i wr => ∃ (q : Nat) (v13' v14' : Value) (ms : List Wl), v13' = v13 ∧ v14' = v14 ∧ q ≤ is.length ∧ i = .int .i64 q ∧ wr.ownsRow w7.heap.size 3 1 v13' q (vI (pkI is od q)) ∧ wr.ownsRow w7.heap.size 22 1 v14' q (wV ms) ∧
              ms.map Wl.l = pkW (ws.map Wl.l) od q ∧ ms.length = q ∧ (∀ x ∈ ms, LentL w7.heap.size wr x) ∧ (∀ x ∈ ms, ∀ k, v13'.ownBlock = some k → x.a ≠ some ⟨k, 0, none⟩) ∧ Below w7.heap.size w7 wr) (fun _ _ i _ => is.length - (intOf i).toNat)
          case atStart => exact ⟨0, _, _, [], rfl, rfl, by omega, rfl, World.ownsRow_nil _ _ _ _, World.ownsRow_nil _ _ _ _, rfl, rfl, (fun x hx => by cases hx), (fun x hx => by cases hx), Below.refl _ _⟩
          case round =>
            obtain ⟨q, v13, v14, ms, hv13, hv14, hq, rfl, ho13, ho14, hml, hmk, hle, hap, hb⟩ := hrel
            subst hv13 hv14
            have H13 := Lib.hid ho13
            have H14 := Lib.hid ho14
            have HML := Lib.hid hml
            have HMK := Lib.hid hmk
            have HLE := Lib.hid hle
            have HAP := Lib.hid hap
            have HBR := Lib.hid hb
            clear ho13 ho14 hml hmk hle hap hb
            by_cases hlt : q < is.length
            · have t0 : decide ((q : Int) < (is.length : Int)) = true := by simp; omega
              have i0 : (q : Int) < (is.length : Int) := by omega
              have HOQ := Lib.hid (owns_below (B := 0) HOO.out HBR.out)
              obtain ⟨_, _, hoe, _, _, hos, _⟩ := owns_len HOQ.out
              obtain ⟨og, hog⟩ := hos (by omega)
              have hoa : oa = some ⟨og, 0, none⟩ := by injection hoe with h1; exact h1.trans hog
              clear hoe hos hog
              subst hoa
              have HZ0 := Lib.hid (fun V (h : Below w7.heap.size w7 V) => owns_cell (owns_below (B := 0) HOO.out h) q (vN_get od q (by rw [HOL.out]; exact hlt)))
              have hjl := HT.out.in_ hlt
              have HT1 := Lib.hid (pkI_succ is od q (by rw [HOL.out]; exact hlt))
              have HT2 := Lib.hid (pkW_succ (ws.map Wl.l) od q (by rw [HOL.out]; exact hlt))
              have hjw : od.getD q 0 < ws.length := by rw [HNL.out]; exact hjl
              have HWB := Lib.hid (HB5.out.trans (HB7.out.mono HB5.out.size))
              have HWR := Lib.hid (HWB.out.trans (HBR.out.mono HWB.out.size))
              obtain ⟨ib, io, hia, z1⟩ := int_at (HI.out.sl.below HWR.out HI.out.sl.lt) (od.getD q 0) hjl
              rw [getD_at is _ hjl] at z1
              have HXV := Lib.hid (fun V (h : Below w.heap.size w V) => (HW.out.kept h).at' (od.getD q 0) hjw)
              have HXE := Lib.hid (HW.out.each _ (List.getElem_mem hjw))
              have HXM := Lib.hid (HTL.out _ (List.getElem_mem hjw))
              have HXL := Lib.hid (ws_getD ws (od.getD q 0) hjw)
              have i1 : ((od.getD q 0 : Nat) : Int) < (is.length : Int) := by omega
              have i2 : ((od.getD q 0 : Nat) : Int) < (ws.length : Int) := by omega
              generalize ws[od.getD q 0] = x at HXV HXE HXM HXL
              obtain ⟨xa, xc, xl⟩ := x
              simp only at HXV HXM HXL
              rw [HXL.out] at HT2
              generalize hiv : is.getD (od.getD q 0) 0 = iv at z1 HT1
              clear hiv hjw
              generalize od.getD q 0 = j at HZ0 z1 HXV i1 i2 hjl
              have z0 := HZ0.out wr HBR.out
              obtain ⟨wb, wo, hwa, z2⟩ := HXV.out wr HWR.out
              have h64 : q + 1 ≤ maxLen := by unfold maxLen; omega
              have hbz : (q + 1) * 8 ≤ 140737488355328 := by omega
              have hbs : w7.heap.size ≤ (wr.alloc (.cells #[.int .i64 iv] 3)).heap.size := (HBR.out.alloc HBR.out.size _).size
              have HIE := Lib.hid hia
              have HWE := Lib.hid hwa
              subst hia hwa
              go_wp2_with (at_builtin; refine wpList_append_sl_at rfl _ _ 22 rfl w7.heap.size 3 (.int .i64 0) 1 8 Try.underlying22 infoI (by rfl) (by decide) v13 q (vI (pkI is od q)) (by rfl) (H13.out.alloc _) (some ⟨wr.heap.size, 0, none⟩) 1 1 (vI [iv]) (by rfl) (fun h => by cases h) (by rfl) (sl_new _ _ _ _) (oneCell_vI _) h64 hbz hbs ?b1)
              intro v13n w8 ho8 hg8 hl8
              have HB8 := Lib.hid ((HBR.out.alloc HBR.out.size (.cells #[.int .i64 iv] 3)).grown hg8 hbs (fun k hk => (H13.out.lt k hk).1))
              have HO8 := Lib.hid ho8
              have H14b := Lib.hid (owns_other (H14.out.alloc (.cells #[.int .i64 iv] 3)) (H13.out.alloc (.cells #[.int .i64 iv] 3)) hg8 (by decide))
              have HLE8 := Lib.hid (show ∀ x ∈ ms, LentL w7.heap.size w8 x from fun x hx => by
                obtain ⟨gx, hgx, _⟩ := (HLE.out x hx).at'
                have hx1 := (HLE.out x hx).below ((Below.refl wr.heap.size wr).alloc (Nat.le_refl _) (.cells #[.int .i64 iv] 3))
                exact ⟨hx1.row.kept hg8 (.inr (fun e => by
                  rw [hgx] at e
                  exact HAP.out x hx gx e.symm hgx)), hx1.mx, hx1.wf⟩)
              have HAP8 := Lib.hid (show ∀ x ∈ ms, ∀ k, v13n.ownBlock = some k → x.a ≠ some ⟨k, 0, none⟩ from fun x hx k hk e => by
                rcases hl8 with h | h
                · exact HAP.out x hx k (h ▸ hk) e
                · rw [h] at hk
                  injection hk with hk
                  obtain ⟨gx, hgx, _, hlt', _⟩ := (HLE.out x hx).at'
                  rw [hgx] at e
                  injection e with e
                  injection e with e
                  have : (wr.alloc (.cells #[.int .i64 iv] 3)).heap.size = wr.heap.size + 1 := by simp
                  omega)
              clear ho8 hg8 hl8 H14 HLE HAP z0 z1 z2
              have HWR8 := Lib.hid (HWB.out.trans (HB8.out.mono HWB.out.size))
              obtain ⟨wb2, wo2, hwe2, z2⟩ := HXV.out w8 HWR8.out
              obtain ⟨rfl, rfl⟩ : wb2 = wb ∧ wo2 = wo := by injection hwe2 with h1; injection h1 with h2 h3; exact ⟨h2.symm, h3.symm⟩
              clear hwe2
              have z0 := HZ0.out w8 HB8.out
              have K13 := Lib.hid (fun V (h : Below w.heap.size w V) => lent_any2 xa xc xl V HXM.out (HXE.out.sl.below h HXE.out.sl.lt) HXE.out.nil HXE.out.wf)
              go_wp2_with fail
              refine (K13.out _ HWR8.out).mono ?_
              rintro r0 w9 ⟨ya9, yc9, rfl, hy, hb9⟩
              have HY9 := Lib.hid hy
              have HB9 := Lib.hid (HB8.out.trans (hb9.mono HB8.out.size))
              have HO9 := Lib.hid (owns_below (B := 0) HO8.out hb9)
              have H149 := Lib.hid (owns_below (B := 0) H14b.out hb9)
              have HLE9 := Lib.hid (show ∀ x ∈ ms, LentL w7.heap.size w9 x from fun x hx => (HLE8.out x hx).below hb9)
              have HLT8 := Lib.hid (fun k (hk : v13n.ownBlock = some k) => (HO8.out.lt k hk).2)
              have hsz8 := HB8.out.size
              clear hy hb9 K13 z0 z2
              have hbz2 : (q + 1) * 24 ≤ 140737488355328 := by omega
              have hbs2 : w7.heap.size ≤ (w9.alloc (.cells #[.slice ya9 xl.length yc9] 22)).heap.size := (HB9.out.alloc HB9.out.size _).size
              go_wp2_with (at_builtin; refine wpList_append_sl rfl _ _ 23 rfl w7.heap.size 22 (.slice none 0 0) 1 24 Try.underlying23 infoS (by rfl) (by decide) v14 q (wV ms) (by rfl) (H149.out.alloc _) (some ⟨w9.heap.size, 0, none⟩) 1 1 (wV [⟨ya9, yc9, xl⟩]) (by rfl) (fun h => by cases h) (by rfl) (sl_new _ _ _ _) (oneCell_wV _) h64 hbz2 hbs2 ?b2)
              intro v14n w10 ho10 hg10
              have HO10 := Lib.hid ho10
              have HB10 := Lib.hid ((HB9.out.alloc HB9.out.size (.cells #[.slice ya9 xl.length yc9] 22)).grown hg10 hbs2 (fun k hk => (H149.out.lt k hk).1))
              have H1310 := Lib.hid (owns_other (HO9.out.alloc (.cells #[.slice ya9 xl.length yc9] 22)) (H149.out.alloc (.cells #[.slice ya9 xl.length yc9] 22)) hg10 (by decide))
              have HLE10 := Lib.hid (show ∀ x ∈ ms ++ [⟨ya9, yc9, xl⟩], LentL w7.heap.size w10 x from fun x hx => by
                rcases List.mem_append.1 hx with e | e
                · exact ((HLE9.out x e).below ((Below.refl _ _).alloc (Nat.le_refl _) _)).grown (H149.out.alloc _) hg10 (by decide)
                · rw [List.mem_singleton.1 e]
                  exact (((HY9.out.base hsz8)).below ((Below.refl _ _).alloc (Nat.le_refl _) _)).grown (H149.out.alloc _) hg10 (by decide))
              have HAP10 := Lib.hid (show ∀ x ∈ ms ++ [(⟨ya9, yc9, xl⟩ : Wl)], ∀ k, v13n.ownBlock = some k → x.a ≠ some ⟨k, 0, none⟩ from fun x hx k hk e => by
                rcases List.mem_append.1 hx with e1 | e1
                · exact HAP8.out x e1 k hk e
                · rw [List.mem_singleton.1 e1] at e
                  obtain ⟨gx, hgx, hle, _⟩ := HY9.out.at'
                  have h1 := HLT8.out k hk
                  have h2 : ya9 = some ⟨gx, 0, none⟩ := hgx
                  have h3 : ya9 = some ⟨k, 0, none⟩ := e
                  rw [h2] at h3
                  injection h3 with h3
                  injection h3 with h3
                  omega)
              clear ho10 hg10 hsz8
              go_wp2
              go_roundw
              case rel => exact ⟨q + 1, _, _, ms ++ [⟨ya9, yc9, xl⟩], rfl, rfl, by omega, by go_num, by rw [HT1.out, vI_append]; exact H1310.out, by rw [wV_append]; exact HO10.out, by rw [List.map_append, HML.out, HT2.out]; rfl, by rw [List.length_append, HMK.out]; rfl, HLE10.out, HAP10.out, HB10.out⟩
              case measure => simp [intOf]; omega
            · have t0 : decide ((q : Int) < (is.length : Int)) = false := by simp; omega
              have hqe : q = is.length := by omega
              have htk : od.take q = od := by rw [hqe, ← HOL.out, List.take_length]
              have htI : pkI is od q = od.map (is.getD · 0) := by unfold pkI; rw [htk]
              have htW : pkW (ws.map Wl.l) od q = od.map ((ws.map Wl.l).getD · []) := by unfold pkW; rw [htk]
              have H13 := Lib.hid (show wr.ownsRow w7.heap.size 3 1 v13 is.length (vI (od.map (is.getD · 0))) by rw [← hqe, ← htI]; exact H13.out)
              have H14 := Lib.hid (show wr.ownsRow w7.heap.size 22 1 v14 is.length (wV ms) by rw [← hqe]; exact H14.out)
              have HML := Lib.hid (show ms.map Wl.l = od.map ((ws.map Wl.l).getD · []) by rw [HML.out, htW])
              have HMK := Lib.hid (show ms.length = is.length by rw [HMK.out, hqe])
              clear hqe htk htI htW HAP
              obtain ⟨a13, c13, rfl, _, _, _, _⟩ := owns_len H13.out
              obtain ⟨a14, c14, rfl, _, _, _, _⟩ := owns_len H14.out
              have HM2 := Lib.hid (HT.out.meet HM.out)
              have HL2 := Lib.hid (show (od.map (is.getD · 0)).length = is.length by rw [List.length_map, HOL.out])
              have HWF2 := Lib.hid (show Wf (od.map (is.getD · 0)) from fun x hx => by
                obtain ⟨a, ha, rfl⟩ := List.mem_map.1 hx
                show (Lit.int .i64 (is.getD a 0)).wf = true
                rw [← getD_at is a (HT.out.lt a ha)]
                exact HI.out.wf _ (List.getElem_mem _))
              obtain ⟨w8, h8⟩ : ∃ W, W = wr := ⟨_, rfl⟩
              subst h8
              have K12 := Lib.hid (show Calls Try.prog 12 #[.slice a13 is.length c13, .slice a14 is.length c14] w8 fun r w' => ∃ s3 s4 s5, r = .returned (.tuple #[s3, s4, s5]) ∧ ClearAns (od.map (is.getD · 0)) ms w8 (.returned (.tuple #[s3, s4, s5])) w' from by
                have h := clear_ans (ic := c13) (wc := c14) (m := is.length) (by rw [HL2.out]; exact HIL6.out) (sl_owns H13.out) HWF2.out (⟨sl_owns H14.out, fun x hx => (HLE.out x hx).ok⟩ : WsOk w8 a14 ms) HMK.out
                rw [HL2.out] at h
                exact h)
              go_wp2_with fail
              refine K12.out.mono ?_
              rintro r0 w9 ⟨s16, s17, s18, rfl, hans⟩
              clear K12 hb0
              have hb0 : ((is.length : Int) != (is.length : Int)) = false := by simp
              have HB9 := Lib.hid (HBR.out.trans (hans.2.mono HBR.out.size))
              have HB9' := Lib.hid (HB7.out.trans (HB9.out.mono HB7.out.size))
              have HG9 := Lib.hid ((HB9'.out.block _ HGL.out).trans HGR.out)
              have H139 := Lib.hid (owns_below (B := 0) H13.out hans.2)
              have HOO9 := Lib.hid (owns_below (B := 0) HOO.out HB9.out)
              have HBF := Lib.hid (HB5.out.trans (HB9'.out.mono HB5.out.size))
              rcases hans with ⟨⟨hr2, hno⟩ | ⟨hm2, cs2, gs2, D2, g2, G2, vc2, B2, hr2, hrun2, hall2, hgot2, hgr2, hg2, hgB2, hcy2, hcr2⟩, hb9⟩
              · rw [HMK.out] at hno
                have h9 := HM2.out
                rw [HNL.out] at h9
                exact absurd h9 hno
              · simp only [Ending.returned.injEq, Value.tuple.injEq, Array.mk.injEq, List.cons.injEq] at hr2
                obtain ⟨rfl, rfl, rfl, _⟩ := hr2
                rw [HL2.out, HML.out] at hrun2
                rw [HL2.out] at hall2 hgr2
                have HSAME := Lib.hid (same_any HT.out HM.out.2.1 (by rw [List.length_map]; exact HNL.out) HRUN.out HALL.out HGOT.out hrun2 hall2 hgot2)
                have HTOT := Lib.hid (run_total hrun2 hall2)
                have HFAC := Lib.hid (fun t (ht : t < cs2.length) => hrun2.facts cs2[t] (List.getElem_mem ht))
                have HGOT2 := Lib.hid (fun t (ht : t < cs2.length) => hgot2 cs2[t] (List.getElem_mem ht))
                have HG2 := Lib.hid hgr2
                have HCY := Lib.hid hcy2
                have HCR := Lib.hid hcr2
                clear hrun2 hall2 hgot2 hgr2 hg2 hgB2 hcy2 hcr2 hm2 hb9 HM2 HML HMK H13 H14 HLE HRUN HALL HGOT
                obtain ⟨a17, c17, rfl, _, _, _, _⟩ := owns_len HCY.out
                have hcl : cs2.length ≤ 9223372036854775807 := by
                  have h1 : cs2.length ≤ maxLen := by omega
                  unfold maxLen at h1; omega
                rw [HL2.out]
                go_wp2
                go_loopw [19, 20, 21] (fun n i x21 wr => ∃ t m : Nat, t ≤ cs2.length ∧ i = .int .i64 t ∧ n = .int .i64 ((sumT cs2 t : Nat) : Int) ∧ wr = w9.drewN m) (fun _ i _ _ => cs2.length - (intOf i).toNat)
                case atStart => exact ⟨0, 0, by omega, rfl, rfl, rfl⟩
                case round =>
                  obtain ⟨t, m, ht, rfl, rfl, hwr⟩ := hrel
                  have HWR := Lib.hid hwr
                  clear hwr
                  by_cases hlt : t < cs2.length
                  · have t0 : decide ((t : Int) < (cs2.length : Int)) = true := by simp; omega
                    have i0 : (t : Int) < (cs2.length : Int) := by omega
                    obtain ⟨ga, gc, kc, ha17, z0, HZ⟩ := cyc_at HCY.out HCR.out t hlt
                    have HZ := Lib.hid HZ
                    subst ha17
                    have HF := Lib.hid (HFAC.out t hlt)
                    have HGT := Lib.hid (HGOT2.out t hlt)
                    have HSS := Lib.hid (sumT_succ cs2 t hlt)
                    have hsl : sumT cs2 t ≤ 3000 := by have := sumT_le cs2 t; have := HTOT.out; omega
                    have hsl2 : sumT cs2 (t + 1) ≤ 3000 := by have := sumT_le cs2 (t + 1); have := HTOT.out; omega
                    rw [HSS.out] at hsl2
                    generalize cs2[t] = c at z0 HZ HF HGT HSS hsl2
                    have hc0 := HF.out.1
                    have y0 : wr.cell? ⟨ga, t, none⟩ = some (.slice (some ⟨gc, 0, none⟩) c.length kc) := by rw [HWR.out]; exact z0
                    clear z0
                    generalize hst : sumT cs2 t = st at hsl hsl2 HSS
                    clear hst
                    obtain ⟨wa', hwa⟩ : ∃ W, W = wr := ⟨_, rfl⟩
                    subst hwa
                    go_wp2
                    go_loopw [21] (fun i wq => ∃ k m2 : Nat, k ≤ c.length ∧ i = .int .i64 k ∧ wq = wa'.drewN m2) (fun i _ => c.length - (intOf i).toNat)
                    case atStart => exact ⟨0, 0, by omega, rfl, rfl⟩
                    case round =>
                      obtain ⟨k, m2, hk, rfl, hwq⟩ := hrel
                      have HWQ := Lib.hid hwq
                      have x0 : wr.cell? ⟨ga, t, none⟩ = some (.slice (some ⟨gc, 0, none⟩) c.length kc) := by rw [hwq]; exact y0
                      clear hwq
                      by_cases hkl : k < c.length
                      · have t1 : decide ((k : Int) < (c.length : Int)) = true := by simp; omega
                        have i1 : (k : Int) < (c.length : Int) := by omega
                        have hml : (k + 1) % c.length < c.length := Nat.mod_lt _ hc0
                        have HQ := Lib.hid (show wr = w9.drewN (m + m2) by rw [HWQ.out, HWR.out, drewN_add])
                        have x1 : wr.cell? ⟨gc, k, none⟩ = some (.int .i64 ((c.getD k 0 : Nat) : Int)) := by rw [HQ.out]; exact HZ.out k hkl
                        have x2 : wr.cell? ⟨gc, (k + 1) % c.length, none⟩ = some (.int .i64 ((c.getD ((k + 1) % c.length) 0 : Nat) : Int)) := by rw [HQ.out]; exact HZ.out _ hml
                        have hl1 := HF.out.2.2 _ (getD_mem hkl)
                        have hl2 := HF.out.2.2 _ (getD_mem hml)
                        have x3 : wr.cell? ⟨g2, c.getD k 0, none⟩ = some (.int .i64 (G2 (c.getD k 0))) := by rw [HQ.out]; exact tabI_cell HG2.out _ hl1
                        obtain ⟨_, _, hoe, _, _, hos, _⟩ := owns_len H139.out
                        obtain ⟨og, hog⟩ := hos (by omega)
                        have hoa : a13 = some ⟨og, 0, none⟩ := by injection hoe with h1; exact h1.trans hog
                        clear hoe hos hog
                        subst hoa
                        have x4 : wr.cell? ⟨og, c.getD ((k + 1) % c.length) 0, none⟩ = some (.int .i64 (G2 (c.getD k 0))) := by
                          rw [HQ.out]
                          have h9 := owns_cell H139.out (c.getD ((k + 1) % c.length) 0) (vI_get (od.map (is.getD · 0)) _ (by rw [HL2.out]; exact hl2))
                          rw [getD_at, ← HGT.out k hkl] at h9
                          exact h9
                        have hrem : Int.tmod ((k : Int) + 1) (c.length : Int) = (((k + 1) % c.length : Nat) : Int) := by
                          rw [show ((k : Int) + 1) = ((k + 1 : Nat) : Int) by omega]; exact (Int.ofNat_tmod (k + 1) c.length).symm
                        have i2 : ((c.getD k 0 : Nat) : Int) < (is.length : Int) := by omega
                        have i3 : ((c.getD ((k + 1) % c.length) 0 : Nat) : Int) < (is.length : Int) := by omega
                        have i4 : (((k + 1) % c.length : Nat) : Int) < (c.length : Int) := by omega
                        have hn0 : ((c.length : Int) == 0) = false := beq_eq_false_iff_ne.2 (by omega)
                        generalize G2 (c.getD k 0) = gv at x3 x4
                        have hne : (gv != gv) = false := by simp
                        generalize c.getD ((k + 1) % c.length) 0 = cn at x2 x4 i3 hl2
                        generalize c.getD k 0 = ck at x1 x3 i2 hl1
                        generalize (k + 1) % c.length = kn at x2 hrem i4 hml
                        go_wp2
                        go_quiet (fail)
                        go_wp2
                        go_roundw
                        case rel => exact ⟨k + 1, m2 + nq, by omega, by go_num, by rw [HWQ.out, drewN_add]⟩
                        case measure => simp [intOf]; omega
                      · have t1 : decide ((k : Int) < (c.length : Int)) = false := by simp; omega
                        go_wp2
                        go_roundw
                        case rel => exact ⟨t + 1, m + m2, by omega, by go_num, by rw [HSS.out]; go_num, by rw [HWQ.out, HWR.out, drewN_add]⟩
                        case measure => simp [intOf]; omega
                  · have t0 : decide ((t : Int) < (cs2.length : Int)) = false := by simp; omega
                    have hte : t = cs2.length := by omega
                    rw [show sumT cs2 t = is.length by rw [hte, sumT_all]; exact HTOT.out]
                    clear hte
                    obtain ⟨wb', hwb⟩ : ∃ W, W = wr := ⟨_, rfl⟩
                    subst hwb
                    go_wp2
                    go_loopw [22] (fun i wq => ∃ k m2 : Nat, k ≤ is.length ∧ i = .int .i64 k ∧ wq = w9.drewN m2) (fun i _ => is.length - (intOf i).toNat)
                    case atStart => exact ⟨0, m, by omega, rfl, HWR.out⟩
                    case round =>
                      obtain ⟨k, m2, hk, rfl, hwq⟩ := hrel
                      have HWQ := Lib.hid hwq
                      clear hwq
                      by_cases hkl : k < is.length
                      · have t1 : decide ((k : Int) < (is.length : Int)) = true := by simp; omega
                        have i1 : (k : Int) < (is.length : Int) := by omega
                        obtain ⟨_, _, hoe, _, _, hos, _⟩ := owns_len HOO9.out
                        obtain ⟨og, hog⟩ := hos (by omega)
                        have hoa : oa = some ⟨og, 0, none⟩ := by injection hoe with h1; exact h1.trans hog
                        clear hoe hos hog
                        subst hoa
                        have hjl := HT.out.in_ hkl
                        have x1 : wr.cell? ⟨og, k, none⟩ = some (.int .i64 ((od.getD k 0 : Nat) : Int)) := by rw [HWQ.out]; exact owns_cell HOO9.out k (vN_get od k (by rw [HOL.out]; exact hkl))
                        have x2 : wr.cell? ⟨g, od.getD k 0, none⟩ = some (.int .i64 (G2 k)) := by rw [HWQ.out, HSAME.out k hkl]; exact tabI_cell HG9.out _ hjl
                        have x3 : wr.cell? ⟨g2, k, none⟩ = some (.int .i64 (G2 k)) := by rw [HWQ.out]; exact tabI_cell HG2.out k hkl
                        have i2 : ((od.getD k 0 : Nat) : Int) < (is.length : Int) := by omega
                        generalize G2 k = gv at x2 x3
                        have hne : (gv != gv) = false := by simp
                        generalize od.getD k 0 = ck at x1 x2 i2 hjl
                        go_wp2
                        go_quiet (fail)
                        go_wp2
                        go_roundw
                        case rel => exact ⟨k + 1, m2 + nq, by omega, by go_num, by rw [HWQ.out, drewN_add]⟩
                        case measure => simp [intOf]; omega
                      · have t1 : decide ((k : Int) < (is.length : Int)) = false := by simp; omega
                        go_wp2
                        go_ret
                        refine ⟨by simp, ?_⟩
                        rw [HWQ.out]
                        exact HBF.out.trans ((Qt.drewN _ m2).below _)
theorem own : ownKnob Try.prog.godebug = none := by kernel_rfl
theorem laidOut : laidOutB Try.prog = true := by kernel_rfl
set_option maxRecDepth 100000 in
theorem lifted (os : Os) (started : os.Started) (H : Type) (enc : TypeId × Value → H) (F : Stop.Interp) :
    ReturnsInHanded {} Try.checked os 4 .any ((Rows.OpenSpec.upto Rows.barterOrderSpec).pre6 enc Try.prog Try.f4 Rows.barterOrderUptoRow.domain false) (((Rows.OpenSpec.upto Rows.barterOrderSpec).at F).post enc Try.prog Try.f4 false true false false) := by
  refine returnsInHanded_of_cond_sized (C := Try.checked) (s := Rows.OpenSpec.upto Rows.barterOrderSpec) (k := Rows.uptoSmall) rfl own started (by kernel_rfl) Try.func4
    (OpenSpec.witness (enc := enc) (C := Try.checked) (s := Rows.OpenSpec.upto Rows.barterOrderSpec) (k := Rows.uptoSmall) rfl false ⟨#[], #[.slice none 0 0, .slice none 0 0, .slice none 0 0], []⟩ 8 (by kernel_rfl) (by kernel_rfl) (by kernel_rfl)
      (x := ([.nil, .nil, .nil], [], [])) (by kernel_rfl) rfl (by kernel_rfl)) ?_
  intro W base args ds gs before hval0 hW hcnd hkk hsz0 _
  have hsz : (DataW.weightsEach Try.prog (Try.f4.params.toList ++ Rows.barterOrderSpec.plain.varTypes Try.prog) (ds ++ gs)).all (· ≤ reachBytes) = true := hsz0
  clear hsz0
  have hval : ∀ (j : Nat) t v, Try.f4.params[j]? = some t → args[j]? = some v → Value.okWide Try.prog W .any base t v := hval0
  have hW' := hW
  obtain ⟨p, q, hA0, hV, rfl, hfz, hnd⟩ := hW
  have hA : DataW.TrodAll enc Try.prog W 0 (fun _ => true) true Try.f4.params.toList args.toList ds p := hA0
  rw [Try.params4] at hA hval hsz
  obtain ⟨v0, vs0, d0, ds0, p0, q0, hargs, rfl, rfl, h0, r0⟩ := trodAll_cons hA
  obtain ⟨v1, vs1, d1, ds1, p1, q1, rfl, rfl, rfl, h1, r1⟩ := trodAll_cons r0
  obtain ⟨v2, vs2, d2, ds2, p2, q2, rfl, rfl, rfl, h2, r2⟩ := trodAll_cons r1
  obtain ⟨rfl, rfl, rfl⟩ := trodAll_nil r2
  obtain rfl : args = #[v0, v1, v2] := by cases args; simp_all
  obtain ⟨rfl, rfl⟩ := trodVars_none hV
  have k0 := h0
  have lt0 : ∀ x ∈ p0, x.block < W.heap.size := by obtain ⟨m, hm⟩ := k0; exact DataW.trod_lt m _ _ _ hm
  obtain ⟨c0, rfl, n0⟩ := open_wl (hval 0 22 v0 rfl rfl) h0 hsz (j := 0) rfl rfl
  have k1 := h1
  have lt1 : ∀ x ∈ p1, x.block < W.heap.size := by obtain ⟨m, hm⟩ := k1; exact DataW.trod_lt m _ _ _ hm
  obtain ⟨a1, cap1, l1, rfl, n1, m1, z1⟩ := open_wls (hval 1 23 v1 rfl rfl) h1 hsz (j := 1) rfl rfl
  have k2 := h2
  have lt2 : ∀ x ∈ p2, x.block < W.heap.size := by obtain ⟨m, hm⟩ := k2; exact DataW.trod_lt m _ _ _ hm
  obtain ⟨c2, rfl, n2⟩ := open_wl (hval 2 22 v2 rfl rfl) h2 hsz (j := 2) rfl rfl
  clear hA0 hval0
  refine (walk c0 a1 cap1 l1 c2 W n0 n1 m1 z1 n2).mono fun e W' ⟨he, bel⟩ => ?_
  subst he
  exact ⟨_, rfl, _, _, _, [], _, [], hW', trodAll_mk1 (shut_bool Try.underlying4 _), (trodAll_cons_mk (Below.trod laidOut (by kernel_rfl) (of_decide_eq_true (by kernel_rfl)) k0 bel lt0) (trodAll_cons_mk (Below.trod laidOut (by kernel_rfl) (of_decide_eq_true (by kernel_rfl)) k1 bel lt1) (trodAll_cons_mk (Below.trod laidOut (by kernel_rfl) (of_decide_eq_true (by kernel_rfl)) k2 bel lt2) trodAll_mk0))), rfl, bel.frame _, fun h => by cases h⟩
theorem over : Rows.barterOrderUptoRow.holds Try.pinned (Rows.OpenSpec.upto Rows.barterOrderSpec) :=
  OpenClaim.holds_of_cond 4 Try.f4 rfl rfl rfl rfl rfl rfl rfl ⟨rfl, rfl, rfl, rfl, rfl⟩ rfl rfl rfl rfl rfl (by kernel_rfl) Try.func4 (by kernel_rfl)
    (of_decide_eq_true (by kernel_rfl)) (by unfold Func.isWrapper; first | (rw [if_pos (by decide +kernel)]; kernel_rfl) | (rw [if_neg (by decide +kernel)]; exact ⟨rfl, rfl⟩))
    (fun os started H enc _ F => lifted os started H enc F)
theorem proved : Rows.BarterOrderUptoSaid := over
#print axioms proved
end Go.Proofs.Ytpikmcapnmdmbaa.lawBarterOrder
