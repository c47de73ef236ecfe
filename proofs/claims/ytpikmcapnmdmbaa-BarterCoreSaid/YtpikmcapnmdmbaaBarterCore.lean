/-
  The stage's theorem: each gets its own or what it would rather have, each item once; nobody does better by going aside.
  No condition beyond the statement's own.
-/
import Derived.Test.YtpikmcapnmdmbaaPd
import Derived.Test.YtpikmcapnmdmbaaYa
import Derived.Test.YtpikmcapnmdmbaaWo
import Derived.Test.YtpikmcapnmdmbaaWi
import Derived.Test.YtpikmcapnmdmbaaWm
namespace Go.Proofs.Ytpikmcapnmdmbaa.lawBarterCore
open Go.RowKit Go.K Go.Maps Go.ChangeShapes Go.WideShapes Go.ChangeAt
set_option linter.unusedVariables false
set_option linter.unusedSimpArgs false
def boxA (x : Asd) : Obj := .cells #[.slice x.ia x.is.length x.ic, .slice x.wa x.ws.length x.wc, .slice x.oa x.who.length x.oc, .slice x.ea x.wh.length x.ec] 25 (0, 0)
theorem getD_at (l : List Int) (i : Nat) (h : i < l.length) : l[i] = l.getD i 0 := by
  rw [List.getD_eq_getElem?_getD, List.getElem?_eq_getElem h]; rfl
theorem ws_getD (ws : List Wl) (i : Nat) (h : i < ws.length) : (ws.map Wl.l).getD i [] = ws[i].l := by
  rw [List.getD_eq_getElem?_getD, List.getElem?_map, List.getElem?_eq_getElem h]; rfl
theorem lent_any2 (a : Option Addr) (c : Nat) (l : List Int) (w : World) (hl : l.length ≤ 1000000) (hs : Sl w a (vI l)) (hn : a = none → l.length = 0 ∧ c = 0) (hw : Wf l) :
    Calls Try.prog 13 #[.slice a l.length c] w fun r w' => ∃ ya yc, r = .returned (.slice ya l.length yc) ∧ LentL w.heap.size w' ⟨ya, yc, l⟩ ∧ Below w.heap.size w w' := by
  refine (lent_any a c l w hl hs hn hw).mono ?_
  rintro r w' ⟨⟨ya, yc, yl⟩, rfl, hyl, hL, hb⟩
  have e : yl = l := hyl
  subst e
  exact ⟨ya, yc, rfl, hL, hb⟩
theorem clear_ans {ia : Option Addr} {ic : Nat} {is : List Int} {wa : Option Addr} {wc m : Nat} {ws : List Wl} {w : World} (hl1 : is.length ≤ 1000000) (hs : Sl w ia (vI is)) (hw : Wf is) (hws : WsOk w wa ws) (hm : ws.length = m) :
    Calls Try.prog 12 #[.slice ia is.length ic, .slice wa m wc] w fun r w' => ∃ s3 s4 s5, r = .returned (.tuple #[s3, s4, s5]) ∧ ClearAns is ws w (.returned (.tuple #[s3, s4, s5])) w' := by
  subst hm
  refine (clear_any ia ic is wa wc ws w hl1 hs hw hws).mono ?_
  rintro r w' ⟨h | ⟨hm, cs, gs, D, g, G, vc, B, rfl, h⟩, hb⟩
  · obtain ⟨rfl, hn⟩ := h
    exact ⟨_, _, _, rfl, .inl ⟨rfl, hn⟩, hb⟩
  · exact ⟨_, _, _, rfl, .inr ⟨hm, cs, gs, D, g, G, vc, B, rfl, h⟩, hb⟩
theorem total_le {ws : List Wl} : ∀ x ∈ ws, x.l.length ≤ total ws := by
  intro x hx
  unfold total
  induction ws with
  | nil => cases hx
  | cons a ws ih =>
    rw [List.map_cons, List.sum_cons]
    rcases List.mem_cons.1 hx with e | e
    · subst e; omega
    · have := ih e; omega
def ordOf (x : Asd) (a : Nat) : List Nat := ord x.is ((x.ws.map Wl.l).getD a []) a
def bet (x : Asd) (G : Nat → Int) (L out : List Nat) (p : Nat) : Bool := decide (plc x.is (ordOf x (L.getD p 0)) (x.is.getD (out.getD p 0) 0) < plc x.is (ordOf x (L.getD p 0)) (G (L.getD p 0)))
def wor (x : Asd) (G : Nat → Int) (L out : List Nat) (p : Nat) : Bool := decide (plc x.is (ordOf x (L.getD p 0)) (G (L.getD p 0)) < plc x.is (ordOf x (L.getD p 0)) (x.is.getD (out.getD p 0) 0))
def anyB (x : Asd) (G : Nat → Int) (L out : List Nat) (k : Nat) : Bool := (List.range k).any (bet x G L out)
theorem anyB_succ (x : Asd) (G : Nat → Int) (L out : List Nat) (k : Nat) : anyB x G L out (k + 1) = (anyB x G L out k || bet x G L out k) := by
  unfold anyB; rw [List.range_succ, List.any_append]; simp
theorem none_better {x : Asd} {G : Nat → Int} {N : Nat → Nat} {L out : List Nat} (h : Ans x.is (x.ws.map Wl.l) G N) (hL : L.Nodup) (hl : ∀ a ∈ L, a < x.is.length) (hp : out.Perm L) (hw : ∀ q, q < L.length → wor x G L out q = false) : anyB x G L out L.length = false := by
  have hg : ∀ q, q < L.length → G (L.getD q 0) = x.is.getD (N (L.getD q 0)) 0 := fun q hq => h.got _ (hl _ (getD_mem hq))
  have hc := h.core L out hL hl hp (fun q hq => by
    have := hw q hq
    unfold wor at this
    rw [hg q hq] at this
    exact Nat.not_lt.1 (of_decide_eq_false this))
  unfold anyB
  rw [List.any_eq_false]
  intro q hq
  have hq' := List.mem_range.1 hq
  unfold bet
  rw [hc q hq', hg q hq']
  simp
set_option maxRecDepth 100000 in
set_option maxHeartbeats 4000000 in
theorem walk (x : Asd) (w : World) (hx : AsdOk w x) : Calls Try.prog 3 #[x.agg] w fun r w' => r = .returned (.bool true) ∧ Below w.heap.size w w' := by
  have HX := Lib.hid hx
  have him := hx.i.mx
  have hwm := hx.wl
  simp only at him
  unfold Asd.agg
  clear hx
  go_enter Try.func3, Try.ntmps3
  have HB0 := Lib.hid ((Below.refl w.heap.size w).alloc (Nat.le_refl _) (boxA x))
  go_wp2_with fail
  refine (awake_any _).mono ?_
  rintro r0 w1 ⟨rfl, hb⟩
  have HB1 := Lib.hid (HB0.out.trans (hb.mono HB0.out.size))
  have HR1 := Lib.hid (show w1.heap[w.heap.size]? = some (boxA x) from row_kept (alloc_at rfl) hb)
  clear hb
  have z0 : w1.cell? ⟨w.heap.size, 0, none⟩ = some (.slice x.ia x.is.length x.ic) := by rw [cell_of_row _ _ _ _ _ _ HR1.out]; rfl
  have z1 : w1.cell? ⟨w.heap.size, 1, none⟩ = some (.slice x.wa x.ws.length x.wc) := by rw [cell_of_row _ _ _ _ _ _ HR1.out]; rfl
  have K11 := Lib.hid (many_any x.ia x.ic x.is x.wa x.wc x.ws w1 him hwm (HX.out.w.kept HB1.out))
  go_wp2_with fail
  refine K11.out.mono ?_
  rintro r0 w2 ⟨⟨b, rfl, hb⟩, rfl⟩
  cases b with
  | true =>
    go_wp2
    go_ret
    exact ⟨rfl, HB1.out⟩
  | false =>
    have htot := hb rfl
    have hil : x.is.length ≤ 3000 := by omega
    have hwl : x.ws.length ≤ 3000 := by omega
    have HTL := Lib.hid (show ∀ y ∈ x.ws, y.l.length ≤ 1000000 from fun y hy => by have := total_le y hy; omega)
    clear hb K11 htot
    -- the two lists lent, and Clear of them
    have K13 := Lib.hid (fun V (h : Below w.heap.size w V) => lent_any2 x.ia x.ic x.is V (by omega) (HX.out.i.sl.below h HX.out.i.sl.lt) HX.out.i.nil HX.out.i.wf)
    have K14 := Lib.hid (fun V (h : Below w.heap.size w V) => lentAll_any x.wa x.wc x.ws V (by omega) (HX.out.w.kept h) HTL.out)
    have hw1 : Below w.heap.size w w1.drew := below_drawn HB1.out _
    have HIL6 := Lib.hid (show x.is.length ≤ 1000000 by omega)
    have HLEN2 := Lib.hid (show ∀ ms : List Wl, ms.map Wl.l = x.ws.map Wl.l → ms.length = x.ws.length from fun ms h => by have := congrArg List.length h; simpa using this)
    go_upto_region 5 with fail
    go_cut [3, 4, 5] from 25 to 35 (fun s3 s4 s5 W => ∃ (ms : List Wl) (r : Ending) (w3 : World), ms.map Wl.l = x.ws.map Wl.l ∧ ms.length = x.ws.length ∧ Below w.heap.size w w3 ∧ w1.heap.size ≤ w3.heap.size ∧ r = .returned (.tuple #[s3, s4, s5]) ∧ ClearAns x.is ms w3 r W ∧ W.heap[w.heap.size]? = some (boxA x))
    case first =>
      go_region_held3 (fun V => V.cell? ⟨w.heap.size, 0, none⟩ = some (.slice x.ia x.is.length x.ic) ∧ V.cell? ⟨w.heap.size, 1, none⟩ = some (.slice x.wa x.ws.length x.wc)) (go_keep)
        ((first
          | (go_at_call 13; (with_reducible refine (K13.out _ hw1).mono ?_); rintro r1 y1 ⟨ya, yc, rfl, hy, hb1⟩; have hB1 : Below w.heap.size w y1 := hw1.trans (hb1.mono hw1.size); have a0 := below_cell hb1 z0; have a1 := below_cell hb1 z1; have hr1 := row_kept (W := w1.drew) HR1.out hb1)
          | (go_at_call 14; (with_reducible refine (K14.out _ hB1).mono ?_); rintro r2 y2 ⟨a', c', ms, rfl, hml, hms, hb2⟩; have hB2 : Below w.heap.size w y2 := hB1.trans (hb2.mono hB1.size); have b0 := below_cell hb2 a0; have b1 := below_cell hb2 a1; have hr2 := row_kept hr1 hb2)
          | (go_at_call 12; (with_reducible refine (clear_ans HIL6.out ((hy.below hb2).ok.sl) HX.out.i.wf hms.ok (HLEN2.out ms hml)).mono ?_); rintro r3 y3 ⟨s3, s4, s5, rfl, hans⟩; have c0 := below_cell hans.2 b0; have c1 := below_cell hans.2 b1; have hr3 := row_kept hr2 hans.2)))
      go_wp2
      go_meet
      exact ⟨ms, _, y2, hml, HLEN2.out ms hml, hB2, Nat.le_trans hb1.size hb2.size, rfl, hans, hr3⟩
    case rest =>
      obtain ⟨ms, r, w3, hml, hmn, hB3, hle3, hr, hans, hrow⟩ := hcut
      obtain ⟨w4, h4⟩ : ∃ W, W = wc := ⟨_, rfl⟩
      subst h4
      have HB4 := Lib.hid (hB3.trans (hans.2.mono hB3.size))
      have HR4 := Lib.hid hrow
      have HWOK := Lib.hid (fun V (h : Below w4.heap.size w4 V) => HX.out.w.kept (HB4.out.trans (h.mono HB4.out.size)))
      have HIOK := Lib.hid (fun V (h : Below w4.heap.size w4 V) => HX.out.i.sl.below (HB4.out.trans (h.mono HB4.out.size)) HX.out.i.sl.lt)
      have K15 := Lib.hid (meet_any x.ia x.ic x.is x.wa x.wc x.ws.length w4 him (HIOK.out w4 (Below.refl _ _)))
      clear z0 z1 K13 K14 hw1 hrow
      have z0 : w4.cell? ⟨w.heap.size, 0, none⟩ = some (.slice x.ia x.is.length x.ic) := by rw [cell_of_row _ _ _ _ _ _ HR4.out]; rfl
      have z1 : w4.cell? ⟨w.heap.size, 1, none⟩ = some (.slice x.wa x.ws.length x.wc) := by rw [cell_of_row _ _ _ _ _ _ HR4.out]; rfl
      rcases hans with ⟨⟨hr2, hno⟩ | ⟨hm, cs, gs, D, g, G, vc, B, hr2, hrun, hall, hgot, hgr, hg, hgB, hcy, hcr⟩, hb4⟩
      · rw [hr] at hr2
        simp only [Ending.returned.injEq, Value.tuple.injEq, Array.mk.injEq, List.cons.injEq] at hr2
        obtain ⟨rfl, rfl, rfl, _⟩ := hr2
        rw [hmn] at hno
        rw [show MeetV x.is x.ws.length = false from by
          cases h : MeetV x.is x.ws.length
          · rfl
          · exact absurd ((meetV_iff _ _).1 h) hno] at K15
        clear hr hb4 hB3 hle3
        go_wp2_with (go_at_call 15; refine K15.out.mono ?_; rintro r0 w5 ⟨rfl, rfl⟩)
        go_ret
        exact ⟨rfl, HB4.out⟩
      · rw [hr] at hr2
        simp only [Ending.returned.injEq, Value.tuple.injEq, Array.mk.injEq, List.cons.injEq] at hr2
        obtain ⟨rfl, rfl, rfl, _⟩ := hr2
        rw [hmn] at hm
        rw [hml] at hrun
        have HANS := Lib.hid (ans_of hrun hall hm.2.1 hgot)
        have HM := Lib.hid hm
        have HGR := Lib.hid hgr
        have hgl := lt_row hgr
        rw [show MeetV x.is x.ws.length = true from (meetV_iff _ _).2 hm] at K15
        clear hr hb4 hB3 hle3 hm hrun hall hgot hgr hg hgB hcy hcr hml hmn
        generalize nextOf cs = N at HANS
        have hb0 : ((x.is.length : Int) != (x.is.length : Int)) = false := by simp
        go_wp2_with (go_at_call 15; refine K15.out.mono ?_; rintro r0 w5 ⟨rfl, rfl⟩)
        clear hb0 K15
        have K16 := Lib.hid (fun i (hi : i < x.ws.length) (hi2 : i < x.is.length) a b V (h : Below w4.heap.size w4 V) => better_any x.ia x.ic x.is x.wa x.wc x.ws i a b V (by omega) (HIOK.out V h) (HWOK.out V h) hi hi2 HM.out)
        have HLW := Lib.hid (show x.ws.length = x.is.length from HM.out.1.symm)
        go_loopw [7, 8, 9, 10] (fun i x8 x9 x10 wr => ∃ k : Nat, k ≤ x.is.length ∧ i = .int .i64 k ∧ Below w4.heap.size w4 wr) (fun i _ _ _ _ => x.is.length - (intOf i).toNat)
        case atStart => exact ⟨0, by omega, rfl, Below.refl _ _⟩
        case round =>
          clear z0 z1
          obtain ⟨k, hk, rfl, hb⟩ := hrel
          have HBR := Lib.hid hb
          have HRR := Lib.hid (show wr.heap[w.heap.size]? = some (boxA x) from (hb.block _ (lt_row HR4.out)).trans HR4.out)
          have HGG := Lib.hid ((hb.block _ hgl).trans HGR.out)
          have z0 : wr.cell? ⟨w.heap.size, 0, none⟩ = some (.slice x.ia x.is.length x.ic) := by rw [cell_of_row _ _ _ _ _ _ HRR.out]; rfl
          have z1 : wr.cell? ⟨w.heap.size, 1, none⟩ = some (.slice x.wa x.ws.length x.wc) := by rw [cell_of_row _ _ _ _ _ _ HRR.out]; rfl
          clear hb
          by_cases hlt : k < x.is.length
          · have t0 : decide ((k : Int) < (x.is.length : Int)) = true := by simp; omega
            have i0 : (k : Int) < (x.is.length : Int) := by omega
            obtain ⟨ib, io, hia, z2⟩ := int_at (HIOK.out wr HBR.out) k hlt
            rw [hia] at z0
            have hge : x.is[k] = x.is.getD k 0 := by rw [List.getD_eq_getElem?_getD, List.getElem?_eq_getElem hlt]; rfl
            rw [hge] at z2
            have HC1 := Lib.hid (cnt_one HANS.out HM.out.2.1 k hlt)
            have K16k := Lib.hid (K16.out k (by rw [HLW.out]; exact hlt) hlt (x.is.getD k 0) (G k))
            have HOWN := Lib.hid (HANS.out.own k hlt)
            have HGK := Lib.hid (HANS.out.got k hlt)
            rw [ws_getD x.ws k (by rw [HLW.out]; exact hlt), ← HGK.out] at HOWN
            rw [hia, decide_eq_false (Nat.not_lt.2 HOWN.out)] at K16k
            have HIA := Lib.hid hia
            clear hge hia
            generalize x.is.getD k 0 = xk at z2 HC1 K16k HOWN
            obtain ⟨wa', hwa⟩ : ∃ W, W = wr := ⟨_, rfl⟩
            subst hwa
            go_wp2
            go_loopw [8, 9] (fun c i wq => ∃ q m : Nat, q ≤ x.is.length ∧ i = .int .i64 q ∧ c = .int .i64 (cnt G xk q) ∧ wq = wa'.drewN m) (fun _ i _ => x.is.length - (intOf i).toNat)
            case atStart => exact ⟨0, 0, by omega, rfl, rfl, rfl⟩
            case round =>
              obtain ⟨q, m, hq, rfl, rfl, hwq⟩ := hrel
              have HWQ := Lib.hid hwq
              have y0 : wr.cell? ⟨w.heap.size, 0, none⟩ = some (.slice (some ⟨ib, io, none⟩) x.is.length x.ic) := by rw [hwq]; exact z0
              have y2 : wr.cell? ⟨ib, io + k, none⟩ = some (.int .i64 xk) := by rw [hwq]; exact z2
              have hcq := cnt_le G xk q
              by_cases hql : q < x.is.length
              · have t1 : decide ((q : Int) < (x.is.length : Int)) = true := by simp; omega
                have i1 : (q : Int) < (x.is.length : Int) := by omega
                have y3 : wr.cell? ⟨g, q, none⟩ = some (.int .i64 (G q)) := by rw [hwq]; exact tabI_cell HGG.out q hql
                have HS := Lib.hid (cnt_succ G xk q)
                clear hwq
                generalize G q = gq at y3 HS
                by_cases e : (gq == xk) = true
                · rw [if_pos e] at HS
                  go_wp2
                  go_quiet (fail)
                  go_wp2
                  go_roundw
                  case rel => exact ⟨q + 1, m + nq, by omega, by go_num, by rw [HS.out]; go_num, by rw [HWQ.out, drewN_add]⟩
                  case measure => simp [intOf]; omega
                · have e' : (gq == xk) = false := by simpa using e
                  rw [if_neg e] at HS
                  clear e
                  go_wp2
                  go_quiet (fail)
                  go_wp2
                  go_roundw
                  case rel => exact ⟨q + 1, m + nq, by omega, by go_num, by rw [HS.out]; rfl, by rw [HWQ.out, drewN_add]⟩
                  case measure => simp [intOf]; omega
              · have t1 : decide ((q : Int) < (x.is.length : Int)) = false := by simp; omega
                have hqe : q = x.is.length := by omega
                rw [show cnt G xk q = 1 by rw [hqe]; exact HC1.out]
                clear hqe hcq
                have y1 : wr.cell? ⟨w.heap.size, 1, none⟩ = some (.slice x.wa x.ws.length x.wc) := by rw [hwq]; exact z1
                have y3 : wr.cell? ⟨g, k, none⟩ = some (.int .i64 (G k)) := by rw [hwq]; exact tabI_cell HGG.out k hlt
                have HBQ := Lib.hid (show Below w4.heap.size w4 wr by rw [hwq]; exact HBR.out.trans ((Qt.drewN _ m).below _))
                clear hwq
                have hq0 : Below w4.heap.size w4 wr.drew := below_drawn HBQ.out _
                go_wp2
                go_region_held3 (fun V => V.cell? ⟨w.heap.size, 0, none⟩ = some (.slice (some ⟨ib, io, none⟩) x.is.length x.ic) ∧ V.cell? ⟨w.heap.size, 1, none⟩ = some (.slice x.wa x.ws.length x.wc) ∧ V.cell? ⟨ib, io + k, none⟩ = some (.int .i64 xk) ∧ V.cell? ⟨g, k, none⟩ = some (.int .i64 (G k))) (go_keep)
                  ((go_at_call 16; (with_reducible refine (K16k.out _ hq0).mono ?_); rintro r1 y4 ⟨rfl, hb1⟩; have c0 := below_cell hb1 y0; have c1 := below_cell hb1 y1; have c2 := below_cell hb1 y2; have c3 := below_cell hb1 y3))
                have HB5 := Lib.hid (hq0.trans (hb1.mono hq0.size))
                clear hb1 hq0 c0 c1 c2 c3
                go_wp2
                go_roundw
                case rel => exact ⟨k + 1, by omega, by go_num, HB5.out⟩
                case measure => simp [intOf]; omega
          · have t0 : decide ((k : Int) < (x.is.length : Int)) = false := by simp; omega
            obtain ⟨w5, hw5⟩ : ∃ W, W = wr := ⟨_, rfl⟩
            subst hw5
            have z2 : w5.cell? ⟨w.heap.size, 2, none⟩ = some (.slice x.oa x.who.length x.oc) := by rw [cell_of_row _ _ _ _ _ _ HRR.out]; rfl
            have z3 : w5.cell? ⟨w.heap.size, 3, none⟩ = some (.slice x.ea x.wh.length x.ec) := by rw [cell_of_row _ _ _ _ _ _ HRR.out]; rfl
            have HB5 := Lib.hid (HB4.out.trans (HBR.out.mono HB4.out.size))
            have K17 := Lib.hid (group_any x.ia x.ic x.is.length x.wa x.wc x.ws.length x.oa x.oc x.who x.ea x.ec x.wh.length w5 (by omega) HX.out.o.mx (HX.out.o.sl.below HB5.out HX.out.o.sl.lt) HX.out.o.wf)
            go_wp2_with fail
            refine K17.out.mono ?_
            rintro r1 w6 ⟨L, lad, lcap, rfl, hLn, hLl, hLo, hb6⟩
            have HB6 := Lib.hid (HB5.out.trans (hb6.mono HB5.out.size))
            have HBW6 := Lib.hid (HBR.out.trans (hb6.mono HBR.out.size))
            have HR6 := Lib.hid (show w6.heap[w.heap.size]? = some (boxA x) from row_kept HRR.out hb6)
            have HLO := Lib.hid hLo
            have HLN := Lib.hid hLn
            have HLL := Lib.hid hLl
            have HLM := Lib.hid (nodup_le _ _ hLn hLl)
            have hLm : L.length ≤ 3000 := Nat.le_trans HLM.out hil
            clear z0 z1 z2 z3 K17 hb6 hLn hLl hLo
            obtain ⟨_, _, hlv, _, _, _, hlnone⟩ := owns_len HLO.out
            have z3 : w6.cell? ⟨w.heap.size, 3, none⟩ = some (.slice x.ea x.wh.length x.ec) := by rw [cell_of_row _ _ _ _ _ _ HR6.out]; rfl
            have K18 := Lib.hid (handed_any lad lcap L x.ea x.ec x.wh w6 (by omega) HX.out.e.mx (by
                obtain ⟨_, _, hv, _, hs, _⟩ := owns_slice HLO.out
                injection hv with h1
                rw [h1]; exact hs) (fun e => by
                injection hlv with h1 h2 h3
                have := hlnone (h1.symm.trans e)
                omega) (HX.out.e.sl.below HB6.out HX.out.e.sl.lt) HX.out.e.wf)
            clear hlv hlnone
            go_wp2_with fail
            refine K18.out.mono ?_
            rintro r1 w7 ⟨out, oad, ocap, rfl, hperm, hOo, hb7⟩
            have HB7 := Lib.hid (HB6.out.trans (hb7.mono HB6.out.size))
            have HBW7 := Lib.hid (HBW6.out.trans (hb7.mono HBW6.out.size))
            have HR7 := Lib.hid (show w7.heap[w.heap.size]? = some (boxA x) from row_kept HR6.out hb7)
            have HLO7 := Lib.hid (owns_below (B := 0) HLO.out hb7)
            have HOO := Lib.hid hOo
            have HPE := Lib.hid hperm
            clear z3 K18 hb7 hOo hperm
            go_wp2
            go_loopw [13, 14, 15, 16, 17] (fun s i x15 x16 x17 wr => ∃ q : Nat, q ≤ L.length ∧ i = .int .i64 q ∧ s = .bool (anyB x G L out q) ∧ (∀ p, p < q → wor x G L out p = false) ∧ Below w7.heap.size w7 wr) (fun _ i _ _ _ _ => L.length - (intOf i).toNat)
            case atStart => exact ⟨0, by omega, rfl, rfl, fun p hp => by omega, Below.refl _ _⟩
            case round =>
              clear hlt t0 hk
              obtain ⟨q, hq, rfl, rfl, hnw, hb⟩ := hrel
              have HNW := Lib.hid hnw
              have HB8 := Lib.hid (HB7.out.trans (hb.mono HB7.out.size))
              have HBW8 := Lib.hid (HBW7.out.trans (hb.mono HBW7.out.size))
              have HR8 := Lib.hid (show wr.heap[w.heap.size]? = some (boxA x) from row_kept HR7.out hb)
              have HG8 := Lib.hid (show wr.heap[g]? = some (.cells (tabI x.is.length G) 3 (0, 0)) from (HBW8.out.block _ hgl).trans HGR.out)
              have HLO8 := Lib.hid (owns_below (B := 0) HLO7.out hb)
              have HOO8 := Lib.hid (owns_below (B := 0) HOO.out hb)
              have HBR8 := Lib.hid hb
              clear hb hnw
              by_cases hql : q < L.length
              · have t1 : decide ((q : Int) < (L.length : Int)) = true := by simp; omega
                have i1 : (q : Int) < (L.length : Int) := by omega
                have hol : out.length = L.length := HPE.out.length_eq
                obtain ⟨lg, hlad⟩ : ∃ lg, lad = some ⟨lg, 0, none⟩ := by
                  obtain ⟨_, _, hv1, _, _, hs1, _⟩ := owns_len HLO8.out
                  injection hv1 with e1
                  obtain ⟨lg, hlg⟩ := hs1 (by omega)
                  exact ⟨lg, e1.trans hlg⟩
                obtain ⟨og, hoad⟩ : ∃ og, oad = some ⟨og, 0, none⟩ := by
                  obtain ⟨_, _, hv2, _, _, hs2, _⟩ := owns_len HOO8.out
                  injection hv2 with e2
                  obtain ⟨og, hog⟩ := hs2 (by omega)
                  exact ⟨og, e2.trans hog⟩
                have HLO9 := Lib.hid HLO8.out
                have HOO9 := Lib.hid HOO8.out
                subst hlad hoad
                have y0 := owns_cell HLO9.out q (vN_get L q hql)
                have y1 : wr.cell? ⟨og, q, none⟩ = some (.int .i64 ((out.getD q 0 : Nat) : Int)) := owns_cell HOO9.out q (vN_get out q (by omega))
                have hal := HLL.out _ (getD_mem hql)
                have hbl := HLL.out _ (HPE.out.mem_iff.1 (getD_mem (show q < out.length by omega)))
                obtain ⟨ib, io, hia, y2⟩ := int_at (HIOK.out wr HBW8.out) (out.getD q 0) hbl
                have hge : x.is[out.getD q 0] = x.is.getD (out.getD q 0) 0 := getD_at x.is _ hbl
                rw [hge] at y2
                have y3 := tabI_cell HG8.out _ hal
                have y4 : wr.cell? ⟨w.heap.size, 0, none⟩ = some (.slice x.ia x.is.length x.ic) := by rw [cell_of_row _ _ _ _ _ _ HR8.out]; rfl
                have y5 : wr.cell? ⟨w.heap.size, 1, none⟩ = some (.slice x.wa x.ws.length x.wc) := by rw [cell_of_row _ _ _ _ _ _ HR8.out]; rfl
                rw [hia] at y4
                have HO16 := Lib.hid (ws_getD x.ws (L.getD q 0) (by rw [HLW.out]; exact hal))
                have KW := Lib.hid (K16.out (L.getD q 0) (by rw [HLW.out]; exact hal) hal (G (L.getD q 0)) (x.is.getD (out.getD q 0) 0))
                have KB := Lib.hid (K16.out (L.getD q 0) (by rw [HLW.out]; exact hal) hal (x.is.getD (out.getD q 0) 0) (G (L.getD q 0)))
                rw [← HO16.out, hia] at KW KB
                have HWQ := Lib.hid (show decide (plc x.is (ord x.is ((x.ws.map Wl.l).getD (L.getD q 0) []) (L.getD q 0)) (G (L.getD q 0)) < plc x.is (ord x.is ((x.ws.map Wl.l).getD (L.getD q 0) []) (L.getD q 0)) (x.is.getD (out.getD q 0) 0)) = wor x G L out q from rfl)
                have HBQ := Lib.hid (show decide (plc x.is (ord x.is ((x.ws.map Wl.l).getD (L.getD q 0) []) (L.getD q 0)) (x.is.getD (out.getD q 0) 0) < plc x.is (ord x.is ((x.ws.map Wl.l).getD (L.getD q 0) []) (L.getD q 0)) (G (L.getD q 0))) = bet x G L out q from rfl)
                rw [HWQ.out] at KW
                rw [HBQ.out] at KB
                have HAS := Lib.hid (anyB_succ x G L out q)
                have HNS := Lib.hid (show wor x G L out q = false → ∀ p, p < q + 1 → wor x G L out p = false from fun h p hp => by
                  by_cases e : p = q
                  · subst e; exact h
                  · exact HNW.out p (by omega))
                have i2 : ((out.getD q 0 : Nat) : Int) < (x.is.length : Int) := by omega
                have i3 : ((L.getD q 0 : Nat) : Int) < (x.is.length : Int) := by omega
                clear hge hia HWQ HBQ HO16 hol
                generalize anyB x G L out q = sm at HAS
                generalize x.is.getD (out.getD q 0) 0 = item at y2 KW KB
                generalize G (L.getD q 0) = gl at y3 KW KB
                generalize L.getD q 0 = la at y0 y3 KW KB i3 hal
                generalize out.getD q 0 = ob at y1 y2 i2 hbl
                go_wp2
                go_quiet (fail)
                obtain ⟨w8, hw8⟩ : ∃ W, W = wr.drewN nq := ⟨_, rfl⟩
                have HBW9 := Lib.hid (show Below w4.heap.size w4 w8 by rw [hw8]; exact HBW8.out.trans ((Qt.drewN _ nq).below _))
                have HBR9 := Lib.hid (show Below w7.heap.size w7 w8 by rw [hw8]; exact HBR8.out.trans ((Qt.drewN _ nq).below _))
                have x0 : w8.cell? ⟨lg, q, none⟩ = some (.int .i64 (la : Int)) := by rw [hw8]; exact y0
                have x3 : w8.cell? ⟨g, la, none⟩ = some (.int .i64 gl) := by rw [hw8]; exact y3
                have x4 : w8.cell? ⟨w.heap.size, 0, none⟩ = some (.slice (some ⟨ib, io, none⟩) x.is.length x.ic) := by rw [hw8]; exact y4
                have x5 : w8.cell? ⟨w.heap.size, 1, none⟩ = some (.slice x.wa x.ws.length x.wc) := by rw [hw8]; exact y5
                rw [← hw8]
                clear hw8 y0 y1 y2 y3 y4 y5
                have hq9 : Below w4.heap.size w4 w8.drew := below_drawn HBW9.out _
                go_wp2
                go_region_held3 (fun V => V.cell? ⟨w.heap.size, 0, none⟩ = some (.slice (some ⟨ib, io, none⟩) x.is.length x.ic) ∧ V.cell? ⟨w.heap.size, 1, none⟩ = some (.slice x.wa x.ws.length x.wc) ∧ V.cell? ⟨lg, q, none⟩ = some (.int .i64 (la : Int)) ∧ V.cell? ⟨g, la, none⟩ = some (.int .i64 gl)) (go_keep)
                  ((go_at_call 16; (with_reducible refine (KW.out _ hq9).mono ?_); rintro r1 v4 ⟨rfl, hb1⟩; have c0 := below_cell hb1 x0; have c3 := below_cell hb1 x3; have c4 := below_cell hb1 x4; have c5 := below_cell hb1 x5))
                have hb10 : Below w4.heap.size w4 v4 := hq9.trans (hb1.mono hq9.size)
                have HBW10 := Lib.hid hb10
                have HBR10 := Lib.hid (HBR9.out.trans (((Qt.drewN w8 1).below w7.heap.size).trans (hb1.mono HBR9.out.size)))
                clear hb1 hb10 hq9 x0 x3 x4 x5
                have hq10 : Below w4.heap.size w4 v4.drew := below_drawn HBW10.out _
                go_wp2
                go_region_held3 (fun V => V.cell? ⟨w.heap.size, 0, none⟩ = some (.slice (some ⟨ib, io, none⟩) x.is.length x.ic) ∧ V.cell? ⟨w.heap.size, 1, none⟩ = some (.slice x.wa x.ws.length x.wc) ∧ V.cell? ⟨lg, q, none⟩ = some (.int .i64 (la : Int)) ∧ V.cell? ⟨g, la, none⟩ = some (.int .i64 gl)) (go_keep)
                  ((go_at_call 16; (with_reducible refine (KB.out _ hq10).mono ?_); rintro r1 v5 ⟨rfl, hb2⟩; have d0 := below_cell hb2 c0; have d3 := below_cell hb2 c3; have d4 := below_cell hb2 c4; have d5 := below_cell hb2 c5))
                have HB11 := Lib.hid (hq10.trans (hb2.mono hq10.size))
                have HBR11 := Lib.hid (HBR10.out.trans (((Qt.drewN v4 1).below w7.heap.size).trans (hb2.mono HBR10.out.size)))
                clear hb2 hq10 c0 c3 c4 c5 d0 d3 d4 d5
                cases hwv : wor x G L out q with
                | true =>
                  clear hwv
                  go_wp2
                  go_ret
                  exact ⟨rfl, HB4.out.trans (HB11.out.mono HB4.out.size)⟩
                | false =>
                  have HNQ := Lib.hid (HNS.out hwv)
                  clear hwv HNS
                  generalize bet x G L out q = bq at HAS
                  cases sm with
                  | true =>
                    go_wp2
                    go_roundw
                    case rel => exact ⟨q + 1, by omega, by go_num, by rw [HAS.out]; rfl, HNQ.out, HBR11.out⟩
                    case measure => simp [intOf]; omega
                  | false =>
                    go_wp2
                    go_roundw
                    case rel => exact ⟨q + 1, by omega, by go_num, by rw [HAS.out]; rfl, HNQ.out, HBR11.out⟩
                    case measure => simp [intOf]; omega
              · have t1 : decide ((q : Int) < (L.length : Int)) = false := by simp; omega
                have hqe : q = L.length := by omega
                have HNB := Lib.hid (show anyB x G L out q = false by rw [hqe]; exact none_better HANS.out HLN.out HLL.out HPE.out (fun p hp => HNW.out p (by omega)))
                rw [HNB.out]
                clear hqe
                go_wp2
                go_ret
                exact ⟨rfl, HB8.out⟩
theorem own : ownKnob Try.prog.godebug = none := by kernel_rfl
theorem laidOut : laidOutB Try.prog = true := by kernel_rfl
set_option maxRecDepth 100000 in
theorem lifted (os : Os) (started : os.Started) (H : Type) (enc : TypeId × Value → H) :
    ReturnsInHanded {} Try.checked os 3 .any (Rows.barterCoreSpec.pre6 enc Try.prog Try.f3 Rows.barterCoreRow.domain false) (Rows.barterCoreSpec.post enc Try.prog Try.f3 false true false false) := by
  refine returnsInHanded_of_change_sized (C := Try.checked) own started (by kernel_rfl) Try.func3
    (ChangeSpec.witness6 (enc := enc) (C := Try.checked) false ⟨#[], #[.agg #[.slice none 0 0, .slice none 0 0, .slice none 0 0, .slice none 0 0]], []⟩ 8 (by kernel_rfl) (by kernel_rfl) (by kernel_rfl) (by kernel_rfl)) ?_
  intro W base args ds gs before hval0 hW hcnd hsz0 _
  have hsz : (DataW.weightsEach Try.prog (Try.f3.params.toList ++ Rows.barterCoreSpec.plain.varTypes Try.prog) (ds ++ gs)).all (· ≤ reachBytes) = true := hsz0
  clear hsz0
  have hval : ∀ (j : Nat) t v, Try.f3.params[j]? = some t → args[j]? = some v → Value.okWide Try.prog W .any base t v := hval0
  have hW' := hW
  obtain ⟨p, q, hA0, hV, rfl, hfz, hnd⟩ := hW
  have hA : DataW.TrodAll enc Try.prog W 0 (fun _ => true) true Try.f3.params.toList args.toList ds p := hA0
  rw [Try.params3] at hA hval hsz
  obtain ⟨v0, vs0, d0, ds0, p0, q0, hargs, rfl, rfl, h0, r0⟩ := trodAll_cons hA
  obtain ⟨rfl, rfl, rfl⟩ := trodAll_nil r0
  obtain rfl : args = #[v0] := by cases args; simp_all
  obtain ⟨rfl, rfl⟩ := trodVars_none hV
  have k0 := h0
  have lt0 : ∀ x ∈ p0, x.block < W.heap.size := by obtain ⟨m, hm⟩ := k0; exact DataW.trod_lt m _ _ _ hm
  obtain ⟨c0, rfl, n0⟩ := open_asd (hval 0 25 v0 rfl rfl) h0 hsz (j := 0) rfl rfl
  clear hA0 hval0
  refine (walk c0 W n0).mono fun e W' ⟨he, bel⟩ => ?_
  subst he
  exact ⟨_, rfl, _, _, _, [], _, [], hW', trodAll_mk1 (shut_bool Try.underlying4 _), (trodAll_cons_mk (Below.trod laidOut (by kernel_rfl) (of_decide_eq_true (by kernel_rfl)) k0 bel lt0) trodAll_mk0), rfl, bel.frame _, fun h => by cases h⟩
theorem over : Rows.barterCoreRow.holds Try.pinned (OpenSpec.ofChange Rows.barterCoreSpec) :=
  OpenClaim.holds_of_wide 3 Try.f3 rfl rfl rfl rfl rfl rfl rfl ⟨rfl, rfl, rfl, rfl, rfl⟩ rfl rfl rfl rfl rfl (by kernel_rfl) Try.func3 (by kernel_rfl)
    (of_decide_eq_true (by kernel_rfl)) (by unfold Func.isWrapper; first | (rw [if_pos (by decide +kernel)]; kernel_rfl) | (rw [if_neg (by decide +kernel)]; exact ⟨rfl, rfl⟩))
    (fun os started H enc _ => lifted os started H enc)
theorem proved : Rows.BarterCoreSaid := over
#print axioms proved
end Go.Proofs.Ytpikmcapnmdmbaa.lawBarterCore
