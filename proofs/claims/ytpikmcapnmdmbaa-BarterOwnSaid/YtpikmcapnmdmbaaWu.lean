/-
  Layer 22, the reference: turned, Clear.
-/
import Derived.Test.YtpikmcapnmdmbaaWt
namespace Go.Proofs.Ytpikmcapnmdmbaa
open Go.RowKit Go.K Go.Maps
set_option linter.unusedVariables false
set_option linter.unusedSimpArgs false
set_option maxRecDepth 100000 in
set_option maxHeartbeats 2000000 in
theorem turned_two (g k : Nat) (c : List Nat) (w : World) (h0 : 0 < c.length) (hl : c.length ≤ 1000000) (hz : ∀ j, j < c.length → w.cell? ⟨g, j, none⟩ = some (.int .i64 ((c.getD j 0 : Nat) : Int))) :
    Calls Try.prog 54 #[.slice (some ⟨g, 0, none⟩) c.length k] w fun r w' => ∃ j g2 k2, j < c.length ∧ (∀ i ∈ c, c.getD j 0 ≤ i) ∧ r = .returned (.slice (some ⟨g2, 0, none⟩) c.length k2) ∧
      w'.ownsRow w.heap.size 3 1 (.slice (some ⟨g2, 0, none⟩) c.length k2) c.length (vN (rot j c)) ∧ Below w.heap.size w w' := by
  have HZ := Lib.hid (show ∀ j, j < c.length → w.cell? ⟨g, j, none⟩ = some (.int .i64 ((cg c j : Nat) : Int)) from hz)
  clear hz
  go_enter Try.func54, Try.ntmps54
  go_wp2
  go_loopw [3, 4] (fun v3 v4 wr => ∃ q j m : Nat, q ≤ c.length ∧ v4 = .int .i64 q ∧ v3 = .int .i64 j ∧ j < c.length ∧ (∀ a, a < q → cg c j ≤ cg c a) ∧ wr = w.drewN m) (fun _ v4 _ => c.length - (intOf v4).toNat)
  case atStart => exact ⟨0, 0, 0, by omega, rfl, rfl, h0, fun a ha => absurd ha (Nat.not_lt_zero a), rfl⟩
  case round =>
    obtain ⟨q, j, m, hq, rfl, rfl, hj, hm, hwr⟩ := hrel
    have HM := Lib.hid hm
    have HWR := Lib.hid hwr
    clear hm hwr
    by_cases hlt : q < c.length
    · have t0 : decide ((q : Int) < (c.length : Int)) = true := by simp; omega
      have i0 : (q : Int) < (c.length : Int) := by omega
      have i1 : (j : Int) < (c.length : Int) := by omega
      have z0 : wr.cell? ⟨g, q, none⟩ = some (.int .i64 ((cg c q : Nat) : Int)) := by rw [HWR.out]; exact HZ.out q hlt
      have z1 : wr.cell? ⟨g, j, none⟩ = some (.int .i64 ((cg c j : Nat) : Int)) := by rw [HWR.out]; exact HZ.out j hj
      by_cases hc : cg c q < cg c j
      · have HN := Lib.hid (show ∀ a, a < q + 1 → cg c q ≤ cg c a from fun a ha => by
          by_cases e : a = q
          · rw [e]; exact Nat.le_refl _
          · have := HM.out a (by omega); omega)
        have t1 : decide (((cg c q : Nat) : Int) < ((cg c j : Nat) : Int)) = true := decide_eq_true (by omega)
        have t2 : decide (cg c q < cg c j) = true := decide_eq_true hc
        generalize ha : cg c q = a at z0 t1 t2
        generalize hb : cg c j = b at z1 t1 t2
        clear hc ha hb
        go_wp2
        go_quiet (fail)
        go_wp2
        go_roundw
        case rel => exact ⟨q + 1, q, m + nq, by omega, by go_num, rfl, hlt, HN.out, by rw [HWR.out, drewN_add]⟩
        case measure => simp [intOf]; omega
      · have HN := Lib.hid (show ∀ a, a < q + 1 → cg c j ≤ cg c a from fun a ha => by
          by_cases e : a = q
          · rw [e]; omega
          · exact HM.out a (by omega))
        have t1 : decide (((cg c q : Nat) : Int) < ((cg c j : Nat) : Int)) = false := decide_eq_false (by omega)
        have t2 : decide (cg c q < cg c j) = false := decide_eq_false hc
        generalize ha : cg c q = a at z0 t1 t2
        generalize hb : cg c j = b at z1 t1 t2
        clear hc ha hb
        go_wp2
        go_quiet (fail)
        go_wp2
        go_roundw
        case rel => exact ⟨q + 1, j, m + nq, by omega, by go_num, rfl, hj, HN.out, by rw [HWR.out, drewN_add]⟩
        case measure => simp [intOf]; omega
    · have t0 : decide ((q : Int) < (c.length : Int)) = false := by simp; omega
      have HLEAST := Lib.hid (show ∀ i ∈ c, c.getD j 0 ≤ i from fun i hi => by
        obtain ⟨a, ha, rfl⟩ := mem_getD hi
        exact HM.out a (by omega))
      have HB := Lib.hid (show Below w.heap.size w wr by rw [HWR.out]; exact (Qt.drewN _ m).below _)
      clear HM HWR
      obtain ⟨w1, hw1⟩ : ∃ W, W = wr := ⟨_, rfl⟩
      subst hw1
      have HRL := Lib.hid (rot_length hj)
      go_wp2
      go_loopw [5, 6] (fun v i wq => ∃ (p : Nat) (v' : Value), v' = v ∧ p ≤ c.length ∧ i = .int .i64 p ∧ wq.ownsRow w.heap.size 3 1 v' p (vN ((rot j c).take p)) ∧ Below w.heap.size w wq) (fun _ i _ => c.length - (intOf i).toNat)
      case atStart => exact ⟨0, _, rfl, by omega, rfl, World.ownsRow_nil _ _ _ _, HB.out⟩
      case round =>
        obtain ⟨p, v, hv, hp, rfl, ho, hb⟩ := hrel
        subst hv
        have HO := Lib.hid ho
        have HBQ := Lib.hid hb
        clear ho hb
        by_cases hpl : p < c.length
        · have t1 : decide ((p : Int) < (c.length : Int)) = true := by simp; omega
          have hml : (j + p) % c.length < c.length := Nat.mod_lt _ h0
          have z0 := (HBQ.out.cell (p := ⟨g, (j + p) % c.length, none⟩) (World.block_lt_of_cell? w _ (HZ.out _ hml))).trans (HZ.out _ hml)
          have hrem : Int.tmod ((j : Int) + (p : Int)) (c.length : Int) = (((j + p) % c.length : Nat) : Int) := by
            rw [show ((j : Int) + (p : Int)) = ((j + p : Nat) : Int) by omega]; exact tmod_nat _ _
          have i4 : (((j + p) % c.length : Nat) : Int) < (c.length : Int) := by omega
          have hn0 : ((c.length : Int) == 0) = false := beq_eq_false_iff_ne.2 (by omega)
          have HTK := Lib.hid (show (rot j c).take (p + 1) = (rot j c).take p ++ [cg c ((j + p) % c.length)] by
            unfold cg
            rw [← rot_get hj p hpl, List.take_succ_eq_append_getElem (by rw [HRL.out]; exact hpl), List.getD_eq_getElem?_getD, List.getElem?_eq_getElem (by rw [HRL.out]; exact hpl)]; rfl)
          have h64 : p + 1 ≤ maxLen := by unfold maxLen; omega
          have hbz : (p + 1) * 8 ≤ 140737488355328 := by omega
          have hbs : w.heap.size ≤ (wr.alloc (.cells #[.int .i64 ((cg c ((j + p) % c.length) : Nat) : Int)] 3)).heap.size := (HBQ.out.alloc HBQ.out.size _).size
          generalize cg c ((j + p) % c.length) = x at z0 HTK hbs
          generalize (j + p) % c.length = kn at z0 hrem i4 hml
          go_wp2_with (at_builtin; refine wpList_append_sl rfl _ _ 22 rfl w.heap.size 3 (.int .i64 0) 1 8 Try.underlying22 infoI (by rfl) (by decide) v p (vN ((rot j c).take p)) (by rfl) (HO.out.alloc _) (some ⟨wr.heap.size, 0, none⟩) 1 1 (vN [x]) (by rfl) (fun h => by cases h) (by rfl) (sl_new _ _ _ _) (oneCell_vN _) h64 hbz hbs ?c1)
          intro v2 w2 ho2 hg2
          have HO2 := Lib.hid ho2
          have HB2 := Lib.hid ((HBQ.out.alloc HBQ.out.size (.cells #[.int .i64 (x : Int)] 3)).grown hg2 hbs (fun k hk => (HO.out.lt k hk).1))
          clear ho2 hg2
          go_wp2
          go_roundw
          case rel => exact ⟨p + 1, _, rfl, by omega, by go_num, by rw [HTK.out, vN_append]; exact HO2.out, HB2.out⟩
          case measure => simp [intOf]; omega
        · have t1 : decide ((p : Int) < (c.length : Int)) = false := by simp; omega
          have hpe : p = c.length := by omega
          have HO3 := Lib.hid (show wr.ownsRow w.heap.size 3 1 v c.length (vN (rot j c)) by have := HO.out; rw [hpe, ← HRL.out, List.take_length, HRL.out] at this; exact this)
          clear hpe
          obtain ⟨a5, c5, rfl, _, _, h5, _⟩ := owns_len HO3.out
          obtain ⟨g5, rfl⟩ := h5 h0
          go_wp2
          go_ret
          exact ⟨j, g5, c5, hj, HLEAST.out, rfl, HO3.out, HBQ.out⟩
theorem CycS.past {B B' s n : Nat} {W W' : World} {cs : List (List Nat)} {gs : List (Nat × Nat)} {v : Value} {xs : List Value} (h : CycS B W cs gs) (ho : W.ownsRow B' 22 s v n xs) (hg : W.grownBy W' v.ownBlock) : CycS B W' cs gs :=
  ⟨h.len, fun t ht ht' => owns_other (h.row t ht ht') ho hg (by decide), h.inc⟩
theorem CycS.kept' {B : Nat} {W W' : World} {cs : List (List Nat)} {gs : List (Nat × Nat)} (h : CycS B W cs gs) (hb : Below W.heap.size W W') : CycS B W' cs gs :=
  ⟨h.len, fun t ht ht' => owns_below (B := 0) (h.row t ht ht') hb, h.inc⟩
theorem got_snoc {n : Nat} {F : (Nat → Bool) → Nat → Nat} {f : Nat → Nat} {is : List Int} {cs : List (List Nat)} {D : Nat → Bool} {G : Nat → Int} {c : List Nat} {j : Nat} (hr : RunTo n F cs D) (hring : Ring n f D c) (hj : j < c.length) (hg : GotOk is cs G) :
    GotOk is (cs ++ [rot j c]) (gotF G is c c.length) := by
  intro c' hc' k hk
  rcases List.mem_append.1 hc' with e | e
  · have hd := hr.goneT c' e _ (getD_mem hk)
    rw [gotF_out G is (fun hin => by rw [hring.left _ hin] at hd; cases hd) _ (Nat.le_refl _)]
    exact hg c' e k hk
  · rw [List.mem_singleton.1 e] at hk ⊢
    rw [rot_length hj] at hk ⊢
    have hp := hring.pos
    have h5 : (j + k) % c.length < c.length := Nat.mod_lt _ hp
    have h6 : (k + 1) % c.length < c.length := Nat.mod_lt _ hp
    rw [rot_get hj k hk, gotF_in G is hring.nd _ (Nat.le_refl _) _ h5, rot_get hj _ h6]
    congr 2
    rw [Nat.mod_add_mod, Nat.add_mod_mod]
    congr 1
theorem ord_pos (is l : List Int) (i : Nat) : 0 < (ord is l i).length := by unfold ord; simp
set_option maxRecDepth 100000 in
set_option maxHeartbeats 2000000 in
theorem rclear_any (ia : Option Addr) (ic : Nat) (is : List Int) (wa : Option Addr) (wc : Nat) (ws : List Wl) (w : World) (hl1 : is.length ≤ 900000) (hs : Sl w ia (vI is)) (hw : Wf is) (hws : WsOk w wa ws) :
    Calls Try.prog 19 #[.slice ia is.length ic, .slice wa ws.length wc] w (ClearAns is ws w) := by
  have HS := Lib.hid hs
  have HW := Lib.hid hw
  have HWS := Lib.hid hws
  have K15 := Lib.hid (meet_any ia ic is wa wc ws.length w (by omega) hs)
  have hm22 := make22 is.length (by omega)
  have hm69 := make69 is.length (by omega)
  clear hs hw hws
  unfold ClearAns
  go_enter Try.func19, Try.ntmps19
  go_wp2_with fail
  refine K15.out.mono ?_
  rintro r w1 ⟨rfl, rfl⟩
  by_cases hmv : MeetV is ws.length = true
  case neg =>
    have hmf : MeetV is ws.length = false := by simpa using hmv
    have hnm : ¬ MeetP is ws.length := fun h => hmv ((meetV_iff _ _).2 h)
    rw [hmf]
    have HNM := Lib.hid hnm
    clear hmv hmf hnm K15
    go_wp2
    go_ret3
    exact ⟨.inl ⟨rfl, HNM.out⟩, Below.refl _ _⟩
  case pos =>
    have HM := Lib.hid ((meetV_iff _ _).1 hmv)
    rw [hmv]
    have HNL := Lib.hid (show ws.length = is.length from HM.out.1.symm)
    clear hmv K15
    go_wp2
    go_loopw [7, 8] (fun v i wr => ∃ (q : Nat) (v' : Value) (os : List (List Nat)) (gs : List (Nat × Nat)), v' = v ∧ q ≤ is.length ∧ i = .int .i64 q ∧ os.length = q ∧ (∀ t (h : t < os.length), os[t] = ord is ((ws.map Wl.l).getD t []) t) ∧
        wr.ownsRow w.heap.size 22 1 v' q (cyV os gs) ∧ CycS w.heap.size wr os gs ∧ Below w.heap.size w wr) (fun _ i _ => is.length - (intOf i).toNat)
    case atStart => exact ⟨0, _, [], [], rfl, by omega, rfl, rfl, (fun t h => absurd h (Nat.not_lt_zero t)), World.ownsRow_nil _ _ _ _, CycS.nil _ _, Below.refl _ _⟩
    case round =>
      obtain ⟨q, v, os, gs, hv, hq, rfl, hol, hoe, ho, hc, hb⟩ := hrel
      subst hv
      have HOL := Lib.hid hol
      have HOE := Lib.hid hoe
      have HO := Lib.hid ho
      have HC := Lib.hid hc
      have HB := Lib.hid hb
      clear hol hoe ho hc hb
      by_cases hlt : q < is.length
      · have t0 : decide ((q : Int) < (is.length : Int)) = true := by simp; omega
        have hqw : q < ws.length := by rw [HNL.out]; exact hlt
        have K52 := Lib.hid (order_any ia ic is wa wc ws q wr (by omega) (HS.out.below HB.out HS.out.lt) (HWS.out.kept HB.out) hqw hlt (by rw [HNL.out]; omega))
        have HPOS := Lib.hid (ord_pos is ws[q].l q)
        have HEQ := Lib.hid (show ord is ws[q].l q = ord is ((ws.map Wl.l).getD q []) q by rw [ws_getD ws q hqw])
        have hom : (ord is ws[q].l q).length ≤ 1000000 := by have := ord_short (l := ws[q].l) hlt; omega
        generalize ord is ws[q].l q = o at K52 HPOS HEQ hom
        clear hqw
        go_wp2_with fail
        refine K52.out.mono ?_
        rintro r0 w2 ⟨ad, cap, rfl, hro, hb2⟩
        obtain ⟨_, _, hv2, _, _, hs2, _⟩ := owns_len hro
        obtain ⟨g2, hg2⟩ := hs2 HPOS.out
        obtain rfl : ad = some ⟨g2, 0, none⟩ := by injection hv2 with h1; exact h1.trans hg2
        have HRO := Lib.hid hro
        have HB2 := Lib.hid (HB.out.trans (hb2.mono HB.out.size))
        have HO2 := Lib.hid (owns_below (B := 0) HO.out hb2)
        have HC2 := Lib.hid (HC.out.kept' hb2)
        have HLO := Lib.hid (hro.lt g2 rfl).1
        have HGS := Lib.hid (HC.out.lt)
        clear hro hb2 hv2 hs2 hg2 K52
        have h63 : q + 1 ≤ maxLen := by unfold maxLen; omega
        have hby : (q + 1) * 24 ≤ 140737488355328 := by omega
        have hbs : w.heap.size ≤ (w2.alloc (.cells #[.slice (some ⟨g2, 0, none⟩) o.length cap] 22)).heap.size := (HB2.out.alloc HB2.out.size _).size
        go_wp2_with (at_builtin; refine wpList_append_sl rfl _ _ 23 rfl w.heap.size 22 (.slice none 0 0) 1 24 Try.underlying23 infoS (by rfl) (by decide) v q (cyV os gs) (by rfl) (HO2.out.alloc _) (some ⟨w2.heap.size, 0, none⟩) 1 1 [.slice (some ⟨g2, 0, none⟩) o.length cap] (by rfl) (fun h => by cases h) (by rfl) (sl_new _ _ _ _) (oneCell_sl _ _ _) h63 hby hbs ?a8)
        intro v3 w3 ho3 hg3
        have HO3 := Lib.hid ho3
        have HB3 := Lib.hid ((HB2.out.alloc HB2.out.size (.cells #[.slice (some ⟨g2, 0, none⟩) o.length cap] 22)).grown hg3 hbs (fun k hk => (HO2.out.lt k hk).1))
        have HC3 := Lib.hid (show CycS w.heap.size w3 (os ++ [o]) (gs ++ [(g2, cap)]) from
          ((HC2.out.kept' ((Below.refl w2.heap.size w2).alloc (Nat.le_refl _) (.cells #[.slice (some ⟨g2, 0, none⟩) o.length cap] 22))).past (HO2.out.alloc _) hg3).snoc
            (owns_base (owns_other (HRO.out.alloc (.cells #[.slice (some ⟨g2, 0, none⟩) o.length cap] 22)) (HO2.out.alloc (.cells #[.slice (some ⟨g2, 0, none⟩) o.length cap] 22)) hg3 (by decide)) HB.out.size)
            (fun x hx => by have h1 := (HGS.out x hx).2; have h2 := HLO.out; omega))
        have HOE3 := Lib.hid (show ∀ t (h : t < (os ++ [o]).length), (os ++ [o])[t] = ord is ((ws.map Wl.l).getD t []) t from fun t h => by
          rw [List.length_append, List.length_singleton] at h
          by_cases e : t < os.length
          · rw [List.getElem_append_left e]; exact HOE.out t e
          · have e2 : t = os.length := by omega
            subst e2
            rw [List.getElem_append_right (Nat.le_refl _)]
            simp only [Nat.sub_self, List.getElem_singleton]
            rw [HOL.out]; exact HEQ.out)
        clear ho3 hg3
        go_wp2
        go_roundw
        case rel => exact ⟨q + 1, _, os ++ [o], gs ++ [(g2, cap)], rfl, by omega, by go_num, by rw [List.length_append, HOL.out]; rfl, HOE3.out, by rw [cyV_snoc HC.out.len]; exact HO3.out, HC3.out, HB3.out⟩
        case measure => simp [intOf]; omega
      · have t0 : decide ((q : Int) < (is.length : Int)) = false := by simp; omega
        have hqe : q = is.length := by omega
        have HOL := Lib.hid (show os.length = is.length by rw [HOL.out, hqe])
        have HO := Lib.hid (show wr.ownsRow w.heap.size 22 1 v os.length (cyV os gs) by rw [HOL.out, ← hqe]; exact HO.out)
        clear hqe
        obtain ⟨oa, oc, hve, _, _, _, _⟩ := owns_len HO.out
        rw [HOL.out] at hve
        subst hve
        have HLS := Lib.hid (show Lists wr oa os from fun t ht => cyc_at (c := oc) (by have := HO.out; rw [← HOL.out] at this; exact this) HC.out t ht)
        obtain ⟨w1, hw1⟩ : ∃ W, W = wr := ⟨_, rfl⟩
        subst hw1
        clear HO HC
        have HA := Lib.hid (((Below.refl w1.heap.size w1).alloc (Nat.le_refl _) (.cells (tabB is.length fun _ => false) 4)).alloc (by simp) (.cells (tabI is.length fun _ => 0) 3))
        go_wp2
        clear hm22 hm69
        obtain ⟨gg, hgg⟩ : ∃ gg, gg = w1.heap.size + 1 := ⟨_, rfl⟩
        rw [← hgg]
        have HGG := Lib.hid hgg
        have hsize : w1.heap.size < gg := by omega
        clear hgg
        go_loopw [11, 12, 13, 14] (fun v11 x12 x13 x14 wr => ∃ (D : Nat → Bool) (G : Nat → Int) (cs : List (List Nat)) (gs2 : List (Nat × Nat)) (v' : Value), v' = v11 ∧ RunTo is.length (pts is (ws.map Wl.l)) cs D ∧ GotOk is cs G ∧
            wr.heap[w1.heap.size]? = some (.cells (tabB is.length D) 4 (0, 0)) ∧ wr.heap[gg]? = some (.cells (tabI is.length G) 3 (0, 0)) ∧ wr.ownsRow (gg + 1) 22 1 v' cs.length (cyV cs gs2) ∧ CycS (gg + 1) wr cs gs2 ∧ Below w1.heap.size w1 wr)
          (fun _ _ _ _ wr => leftOf wr w1.heap.size)
        case atStart => exact ⟨_, _, [], [], _, rfl, .nil, (fun c hc => by cases hc), alloc_old (alloc_at rfl), by rw [HGG.out]; exact alloc_at (by simp), World.ownsRow_nil _ _ _ _, CycS.nil _ _, HA.out⟩
        case round =>
          clear HA
          obtain ⟨D, G, cs, gs2, v, hv, hrun, hgot, hgd, hgt, hcy, hcr, hb⟩ := hrel
          subst hv
          have HRUN := Lib.hid hrun
          have HGOT := Lib.hid hgot
          have HGD := Lib.hid hgd
          have HGT := Lib.hid hgt
          have HCY := Lib.hid hcy
          have HCR := Lib.hid hcr
          have HBR := Lib.hid hb
          have hgl := lt_row hgt
          have HGL := Lib.hid hgl
          have K53 := Lib.hid (cycle_two oa oc w1.heap.size is (ws.map Wl.l) os D wr hl1 HM.out.2.1 HOL.out HOE.out (HLS.out.below hb) (fun i hi => tabB_cell hgd i hi))
          clear hrun hgot hgd hgt hcy hcr hb hgl
          obtain ⟨w2, hw2⟩ : ∃ W, W = wr := ⟨_, rfl⟩
          subst hw2
          go_wp2_with fail
          refine K53.out.mono ?_
          rintro r0 w3 ⟨⟨hall, rfl⟩ | ⟨s, p, l, c, g, k, hcl, hway, hp, hpe, hdone, rfl, hco⟩, hb3⟩
          · have HALL := Lib.hid hall
            have HB3 := Lib.hid (HBR.out.trans (hb3.mono HBR.out.size))
            have HCY3 := Lib.hid (owns_below (B := 0) HCY.out hb3)
            have HCR3 := Lib.hid (HCR.out.kept' hb3)
            have HGT3 := Lib.hid (row_kept HGT.out hb3)
            clear hall hb3 K53
            go_wp2
            go_ret3
            exact ⟨.inr ⟨HM.out, cs, gs2, D, gg, G, v, gg + 1, rfl, HRUN.out, HALL.out, HGOT.out, HGT3.out, by have := HB.out.size; omega, by omega, HCY3.out, HCR3.out⟩, HB.out.trans (HB3.out.mono HB.out.size)⟩
          · have HRING := Lib.hid (show Ring is.length (pts is (ws.map Wl.l) D) D c from by rw [hcl]; exact hway.ring hp hpe)
            have HCYC := Lib.hid (show ∀ j, j < c.length → (∀ i ∈ c, c.getD j 0 ≤ i) → Cyc is.length (pts is (ws.map Wl.l) D) D (rot j c) from fun j hj hm => by
              subst hcl; exact hway.cyc hp hpe hdone hj hm)
            have hc0 := HRING.out.pos
            have hcm : c.length ≤ is.length := nodup_le _ _ HRING.out.nd HRING.out.lt
            have HCO := Lib.hid hco
            have HB3 := Lib.hid hb3
            have HZ := Lib.hid (show ∀ j, j < c.length → w3.cell? ⟨g, j, none⟩ = some (.int .i64 ((cg c j : Nat) : Int)) from fun j hj => owns_cell hco j (vN_get c j hj))
            have HGW := Lib.hid (hco.lt g rfl)
            have hgg1 : g ≠ gg := fun e => by have h1 := HGL.out; have h2 := HGW.out.1; omega
            have hgd1 : g ≠ w1.heap.size := fun e => by have h1 := HGL.out; have h2 := HGW.out.1; omega
            clear hcl hway hp hpe hdone hco hb3 K53 HGW
            have t0 : ((c.length : Int) == 0) = false := beq_eq_false_iff_ne.2 (by omega)
            go_wp2
            clear t0
            go_loopw [13] (fun i wq => ∃ q : Nat, q ≤ c.length ∧ i = .int .i64 q ∧ wq.heap[gg]? = some (.cells (tabI is.length (gotF G is c q)) 3 (0, 0)) ∧ Only (fun n => n = gg) w3 wq) (fun i _ => c.length - (intOf i).toNat)
            case atStart => exact ⟨0, by omega, rfl, row_kept HGT.out HB3.out, Only.refl _ _⟩
            case round =>
              obtain ⟨q, hq, rfl, hrow, hon⟩ := hrel
              have HROW := Lib.hid hrow
              have HON := Lib.hid hon
              clear hrow hon
              by_cases hql : q < c.length
              · have t1 : decide ((q : Int) < (c.length : Int)) = true := by simp; omega
                have i0 : (q : Int) < (c.length : Int) := by omega
                have hml : (q + 1) % c.length < c.length := Nat.mod_lt _ hc0
                have z0 := HON.out.cell (HZ.out q hql) hgg1
                have z1 := HON.out.cell (HZ.out _ hml) hgg1
                have hcq : cg c q < is.length := HRING.out.lt _ (getD_mem hql)
                have hcn : cg c ((q + 1) % c.length) < is.length := HRING.out.lt _ (getD_mem hml)
                obtain ⟨ib, io, hia, z2⟩ := int_at HS.out (cg c ((q + 1) % c.length)) hcn
                rw [getD_at is _ hcn] at z2
                have HIW := Lib.hid (show Below w.heap.size w wr from by
                  have h1 := HB.out.trans (HBR.out.mono HB.out.size)
                  have h2 := h1.trans (HB3.out.mono h1.size)
                  exact h2.trans (HON.out.below h2.size (fun k hk => by have := HB.out.size; omega)))
                have z3 := (HIW.out.cell (p := ⟨ib, io + cg c ((q + 1) % c.length), none⟩) (World.block_lt_of_cell? w _ z2)).trans z2
                clear z2
                have hrem : Int.tmod ((q : Int) + 1) (c.length : Int) = (((q + 1) % c.length : Nat) : Int) := by
                  rw [show ((q : Int) + 1) = ((q + 1 : Nat) : Int) by omega]; exact tmod_nat _ _
                have i2 : ((cg c q : Nat) : Int) < (is.length : Int) := by omega
                have i3 : ((cg c ((q + 1) % c.length) : Nat) : Int) < (is.length : Int) := by omega
                have i4 : (((q + 1) % c.length : Nat) : Int) < (c.length : Int) := by omega
                have hn0 : ((c.length : Int) == 0) = false := beq_eq_false_iff_ne.2 (by omega)
                have HGF := Lib.hid (show gotF G is c (q + 1) = upd (gotF G is c q) (cg c q) (is.getD (cg c ((q + 1) % c.length)) 0) from rfl)
                subst hia
                generalize is.getD (cg c ((q + 1) % c.length)) 0 = iv at z3 HGF
                generalize cg c ((q + 1) % c.length) = cn at z1 z3 i3 hcn
                generalize cg c q = cq at z0 i2 hcq HGF
                generalize (q + 1) % c.length = kn at z1 hrem i4 hml
                go_wp2_with fail
                have hce : ¬ c = [] := fun e => by rw [e] at hc0; exact absurd hc0 (Nat.lt_irrefl 0)
                have hwr : IntKind.i64.wrap ((q : Int) + 1) = (q : Int) + 1 := by rw [IntKind.wrap_i64]; omega
                refine wp_region_inv 17 (fun V => Qt wr V) (by kernel_rfl) (by kernel_rfl) (fun n => ⟨n, rfl⟩) ?_
                simp only [List.take_succ_cons, List.take_zero]
                iterate 17
                  apply wpInv_cons
                  · rfl
                  · intro Wx hw
                    have k0 := (hw.cell ⟨g, q, none⟩).trans z0
                    have k1 := (hw.cell ⟨g, kn, none⟩).trans z1
                    have k2 := (hw.cell ⟨ib, io + cn, none⟩).trans z3
                    go_simp
                    first
                      | exact ⟨hw, rfl⟩
                      | (rw [if_neg hce]; exact ⟨hw, rfl⟩)
                  simp only [Act.put, List.setIfInBounds_toArray, List.set_cons_zero, List.set_cons_succ, hwr, hrem]
                refine wpInv_nil fun V hw => ?_
                simp only [List.drop_succ_cons, List.drop_zero]
                have hrV : V.heap[gg]? = some (.cells (tabI is.length (gotF G is c q)) 3 (0, 0)) := by rw [hw.heap]; exact HROW.out
                have HV := Lib.hid hw
                clear hw
                (with_reducible refine at_store_op ?_); refine wpList_store_lit 3 gg cq (tabI is.length (gotF G is c (q + 1))) (.int .i64 iv) hrV sz3 (by rw [tabI_size]; exact hcq) rfl (by rw [HGF.out]; exact tabI_set _ _ _ hcq _) ?_ ?_ ?_; exact rfl; exact rfl
                intro w4 hp4
                have HON4 := Lib.hid (HON.out.trans (Only.of_below (S := fun n => n = gg) (HV.out.below _)) (fun n hn => .inl hn))
                have HON5 := Lib.hid (HON4.out.trans hp4.only (fun n hn => .inl hn))
                have HROW4 := Lib.hid hp4.at'
                clear hp4 hrV
                go_wp2
                go_roundw
                case rel => exact ⟨q + 1, by omega, by go_num, HROW4.out, HON5.out⟩
                case measure => simp [intOf]; omega
              · have t1 : decide ((q : Int) < (c.length : Int)) = false := by simp; omega
                have hqe : q = c.length := by omega
                have HROW := Lib.hid (show wr.heap[gg]? = some (.cells (tabI is.length (gotF G is c c.length)) 3 (0, 0)) by rw [← hqe]; exact HROW.out)
                clear hqe
                obtain ⟨w4, hw4⟩ : ∃ W, W = wr := ⟨_, rfl⟩
                subst hw4
                have HGD4 := Lib.hid (HON.out.row (row_kept HGD.out HB3.out) (by omega))
                go_wp2
                clear t1
                go_loopw [14] (fun i wq => ∃ q : Nat, q ≤ c.length ∧ i = .int .i64 q ∧ wq.heap[w1.heap.size]? = some (.cells (tabB is.length (goneF D c q)) 4 (0, 0)) ∧ Only (fun n => n = w1.heap.size) w4 wq) (fun i _ => c.length - (intOf i).toNat)
                case atStart => exact ⟨0, by omega, rfl, HGD4.out, Only.refl _ _⟩
                case round =>
                  obtain ⟨q2, hq2, rfl, hrow2, hon2⟩ := hrel
                  have HROW2 := Lib.hid hrow2
                  have HON2 := Lib.hid hon2
                  clear hrow2 hon2
                  by_cases hql2 : q2 < c.length
                  · have t1 : decide ((q2 : Int) < (c.length : Int)) = true := by simp; omega
                    have i0 : (q2 : Int) < (c.length : Int) := by omega
                    have z0 := HON2.out.cell (HON.out.cell (HZ.out q2 hql2) hgg1) hgd1
                    have hcq : cg c q2 < is.length := HRING.out.lt _ (getD_mem hql2)
                    have i2 : ((cg c q2 : Nat) : Int) < (is.length : Int) := by omega
                    have HGF := Lib.hid (show goneF D c (q2 + 1) = upd (goneF D c q2) (cg c q2) true from rfl)
                    generalize cg c q2 = cq at z0 i2 hcq HGF
                    go_wp2_with ((with_reducible refine at_store_op ?_); refine wpList_store_lit 4 w1.heap.size cq (tabB is.length (goneF D c (q2 + 1))) (.bool true) HROW2.out sz4 (by rw [tabB_size]; exact hcq) rfl (by rw [HGF.out]; exact tabB_set _ _ _ hcq _) ?_ ?_ ?_; exact rfl; exact rfl; intro w5 hp5)
                    have HON5 := Lib.hid (HON2.out.trans hp5.only (fun n hn => .inl hn))
                    have HROW5 := Lib.hid hp5.at'
                    clear hp5
                    go_roundw
                    case rel => exact ⟨q2 + 1, by omega, by go_num, HROW5.out, HON5.out⟩
                    case measure => simp [intOf]; omega
                  · have t1 : decide ((q2 : Int) < (c.length : Int)) = false := by simp; omega
                    have hqe : q2 = c.length := by omega
                    have HGD5 := Lib.hid (show wr.heap[w1.heap.size]? = some (.cells (tabB is.length (gadd D c)) 4 (0, 0)) by
                      have h1 := HROW2.out
                      rw [hqe, goneF_eq D c c.length (Nat.le_refl _), List.take_length] at h1; exact h1)
                    clear hqe
                    obtain ⟨w5, hw5⟩ : ∃ W, W = wr := ⟨_, rfl⟩
                    subst hw5
                    have HO5 := Lib.hid (show Only (fun n => n = gg ∨ n = w1.heap.size) w3 w5 from (HON.out.mono (fun k hk => .inl hk)).trans HON2.out (fun n hn => .inl (.inr hn)))
                    have HGT5 := Lib.hid (HON2.out.row HROW.out (by omega))
                    have hsz3 := HB3.out.size
                    have HCY5 := Lib.hid (HO5.out.owns (owns_below (B := 0) HCY.out HB3.out) (fun k hk e => by have := (HCY.out.lt k hk).1; omega))
                    have HCR5 := Lib.hid ((HCR.out.kept' HB3.out).only HO5.out (fun x hx e => by have := ((HCR.out.kept' HB3.out).lt x hx).1; omega))
                    have HB5 := Lib.hid (show Below w1.heap.size w1 w5 from by
                      have h2 := HBR.out.trans (HB3.out.mono HBR.out.size)
                      exact h2.trans (HO5.out.below h2.size (fun k hk => by omega)))
                    have hsz5 := HO5.out.size
                    have K54 := Lib.hid (turned_two g k c w5 hc0 (by omega) (fun j hj => HO5.out.cell (HZ.out j hj) (fun e => e.elim hgg1 hgd1)))
                    have HGSL := Lib.hid (HCR.out.lt)
                    clear HROW HROW2 HON HON2 HGD4
                    go_wp2_with fail
                    refine K54.out.mono ?_
                    rintro r0 w6 ⟨j, g6, k6, hj, hlst, rfl, ho6, hb6⟩
                    have HCY6 := Lib.hid (owns_below (B := 0) HCY5.out hb6)
                    have HCR6 := Lib.hid (HCR5.out.kept' hb6)
                    have HGT6 := Lib.hid (row_kept HGT5.out hb6)
                    have HGD6 := Lib.hid (row_kept HGD5.out hb6)
                    have HB6 := Lib.hid (HB5.out.trans (hb6.mono HB5.out.size))
                    have HO6 := Lib.hid ho6
                    have HCJ := Lib.hid (HCYC.out j hj hlst)
                    have HRL := Lib.hid (rot_length hj)
                    have hsz6 := hb6.size
                    have HLO6 := Lib.hid (ho6.lt g6 rfl).1
                    clear hlst ho6 hb6 K54
                    have HSH := Lib.hid ((HRUN.out.snoc HCJ.out).short)
                    have hcs : cs.length + 1 ≤ is.length := by have := HSH.out; rw [List.length_append, List.length_singleton] at this; omega
                    have h63 : cs.length + 1 ≤ maxLen := by unfold maxLen; omega
                    have hby : (cs.length + 1) * 24 ≤ 140737488355328 := by omega
                    have hbs : gg + 1 ≤ (w6.alloc (.cells #[.slice (some ⟨g6, 0, none⟩) c.length k6] 22)).heap.size := by have := HGL.out; simp; omega
                    go_wp2_with (at_builtin; refine wpList_append_sl rfl _ _ 23 rfl (gg + 1) 22 (.slice none 0 0) 1 24 Try.underlying23 infoS (by rfl) (by decide) v cs.length (cyV cs gs2) (by rfl) (HCY6.out.alloc _) (some ⟨w6.heap.size, 0, none⟩) 1 1 [.slice (some ⟨g6, 0, none⟩) c.length k6] (by rfl) (fun h => by cases h) (by rfl) (sl_new _ _ _ _) (oneCell_sl _ _ _) h63 hby hbs ?a9)
                    intro v7 w7 ho7 hg7
                    have HAL := Lib.hid ((Below.refl w6.heap.size w6).alloc (Nat.le_refl _) (.cells #[.slice (some ⟨g6, 0, none⟩) c.length k6] 22))
                    have HO7 := Lib.hid ho7
                    have HNE7 := Lib.hid (show ∀ k, k ≤ gg → some k ≠ v.ownBlock from fun k hk e => by have := (HCY6.out.lt k e.symm).1; omega)
                    have HGT7 := Lib.hid (row_past (alloc_old (p := .cells #[.slice (some ⟨g6, 0, none⟩) c.length k6] 22) HGT6.out) hg7 (HNE7.out gg (Nat.le_refl _)))
                    have HGD7 := Lib.hid (row_past (alloc_old (p := .cells #[.slice (some ⟨g6, 0, none⟩) c.length k6] 22) HGD6.out) hg7 (HNE7.out _ (by omega)))
                    have HB7 := Lib.hid ((HB6.out.alloc HB6.out.size (.cells #[.slice (some ⟨g6, 0, none⟩) c.length k6] 22)).grown hg7 (HB6.out.alloc HB6.out.size _).size (fun k hk => by have := (HCY6.out.lt k hk).1; omega))
                    have HCR7 := Lib.hid (show CycS (gg + 1) w7 (cs ++ [rot j c]) (gs2 ++ [(g6, k6)]) from
                      ((HCR6.out.kept' HAL.out).past (HCY6.out.alloc _) hg7).snoc
                        (by rw [HRL.out]; exact owns_base (owns_other (HO6.out.alloc (.cells #[.slice (some ⟨g6, 0, none⟩) c.length k6] 22)) (HCY6.out.alloc (.cells #[.slice (some ⟨g6, 0, none⟩) c.length k6] 22)) hg7 (by decide)) (by have := HGL.out; omega))
                        (fun x hx => by have h1 := (HGSL.out x hx).2; have h2 := HLO6.out; omega))
                    have HCV7 := Lib.hid (show cyV (cs ++ [rot j c]) (gs2 ++ [(g6, k6)]) = cyV cs gs2 ++ [.slice (some ⟨g6, 0, none⟩) c.length k6] by rw [cyV_snoc HCR.out.len, HRL.out])
                    have HLA := Lib.hid (leftOf_eq HGD.out)
                    have HLB := Lib.hid (leftOf_eq HGD7.out)
                    have HNL2 := Lib.hid (nLeft_gadd HCJ.out.toRing)
                    clear ho7 hg7
                    go_wp2
                    go_roundw
                    case rel => exact ⟨gadd D c, gotF G is c c.length, cs ++ [rot j c], gs2 ++ [(g6, k6)], _, rfl, by rw [← gadd_rot D c j]; exact HRUN.out.snoc HCJ.out, got_snoc HRUN.out HRING.out hj HGOT.out, HGD7.out, HGT7.out, by rw [HCV7.out, List.length_append]; exact HO7.out, HCR7.out, HB7.out⟩
                    case measure => rw [HLA.out, HLB.out]; have := HNL2.out; rw [gadd_rot] at this; omega
end Go.Proofs.Ytpikmcapnmdmbaa
