/-
  Layer 22: Clear.
-/
import Derived.Test.YtpikmcapnmdmbaaWe
import Derived.Test.YtpikmcapnmdmbaaGen
import Derived.WalkMore
import Derived.RegionTactic
import Derived.ChangeAlike
import Derived.Deep.DeepCutAuto
import Derived.Deep.CutBlock
import Derived.Deep.RegionHeld3
namespace Go.Proofs.Ytpikmcapnmdmbaa
open Go.RowKit Go.K Go.Maps
set_option linter.unusedVariables false
set_option linter.unusedSimpArgs false
theorem made_tabI (n : Nat) : madeCells (Value.int .i64 0).cells n = tabI n (fun _ => 0) := by
  apply Array.ext
  · simp [madeCells, tabI]
  · intro i h1 h2
    simp [madeCells, tabI, Value.cells, Nat.mod_one]
theorem made_tabB (n : Nat) : madeCells (Value.bool false).cells n = tabB n (fun _ => false) := by
  apply Array.ext
  · simp [madeCells, tabB]
  · intro i h1 h2
    simp [madeCells, tabB, Value.cells, Nat.mod_one]
theorem infoB : (Try.prog.info? 4).map (fun i => (i.zero, i.size, i.bytes)) = some (some (.bool false), 1, 1) := by kernel_rfl
theorem make22 (n : Nat) (h : n ≤ 17592186043904) (w : World) : (Instr.makeSlice 22 (.int .i64 n) (.int .i64 n)).run Try.prog w = .ok (.slice (some ⟨w.heap.size, 0, none⟩) n n) (w.alloc (.cells (tabI n (fun _ => 0)) 3)) := by
  obtain ⟨i, hi, hz, hs, hb⟩ := info_parts infoI
  have := run_make (P := Try.prog) w 22 3 i (.int .i64 0) Try.underlying22 hi hz .i64 .i64 n n (by omega) (by omega) (by rw [hb]; omega) (by omega)
  rw [hs] at this
  simpa [made_tabI] using this
theorem make69 (n : Nat) (h : n ≤ 17592186043904) (w : World) : (Instr.makeSlice 69 (.int .i64 n) (.int .i64 n)).run Try.prog w = .ok (.slice (some ⟨w.heap.size, 0, none⟩) n n) (w.alloc (.cells (tabB n (fun _ => false)) 4)) := by
  obtain ⟨i, hi, hz, hs, hb⟩ := info_parts infoB
  have := run_make (P := Try.prog) w 69 4 i (.bool false) Try.underlying69 hi hz .i64 .i64 n n (by omega) (by omega) (by rw [hb]; omega) (by omega)
  rw [hs] at this
  simpa [made_tabB] using this
def ClearAns (is : List Int) (ws : List Wl) (w : World) (r : Ending) (w' : World) : Prop :=
  ((r = .returned (.tuple #[.slice none 0 0, .slice none 0 0, .int .i64 220]) ∧ ¬ MeetP is ws.length) ∨
   (MeetP is ws.length ∧ ∃ (cs : List (List Nat)) (gs : List (Nat × Nat)) (D : Nat → Bool) (g : Nat) (G : Nat → Int) (vc : Value) (B : Nat),
      r = .returned (.tuple #[.slice (some ⟨g, 0, none⟩) is.length is.length, vc, .int .i64 0]) ∧ RunTo is.length (pts is (ws.map Wl.l)) cs D ∧ (∀ i, i < is.length → D i = true) ∧ GotOk is cs G ∧
      w'.heap[g]? = some (.cells (tabI is.length G) 3 (0, 0)) ∧ w.heap.size ≤ g ∧ g < B ∧ w'.ownsRow B 22 1 vc cs.length (cyV cs gs) ∧ CycS B w' cs gs)) ∧ Below w.heap.size w w'
theorem CI.start {w w1 w2 : World} {gb go gp : Nat} {ia : Option Addr} {ic : Nat} {is : List Int} {wa : Option Addr} {wc : Nat} {ws : List Wl} (hb : Below w.heap.size w w1) (hs : Sl w ia (vI is)) (hw : Wf is) (hws : WsOk w wa ws) (hlen : ws.length = is.length) (hnd : is.Nodup)
    (hmap : MapR w1 gb is.length is) (hgb : w.heap.size ≤ gb) (hgl : gb < w1.heap.size) (hgg : (go = w1.heap.size ∧ gp = w1.heap.size + 1) ∨ (go = w1.heap.size + 1 ∧ gp = w1.heap.size)) (hsz : w2.heap.size = w1.heap.size + 3) (hb2 : Below w1.heap.size w1 w2)
    (hrow : w2.heap[w1.heap.size + 2]? = some (.cells #[.slice ia is.length ic, .slice wa is.length wc, .map (some gb), .slice (some ⟨go, 0, none⟩) is.length is.length, .slice (some ⟨gp, 0, none⟩) is.length is.length] 71 (0, 0)))
    (hgone : w2.heap[go]? = some (.cells (tabB is.length (fun _ => false)) 4 (0, 0))) (hpass : w2.heap[gp]? = some (.cells (tabI is.length (fun _ => 0)) 3 (0, 0))) :
    CI w w1.heap.size gb go gp ia ic is wa wc ws ((w2.alloc (.cells (tabI is.length (fun _ => 0)) 3)).alloc (.cells (tabI is.length (fun _ => 0)) 3)) (fun _ => false) (fun _ => 0) (fun _ => 0) (fun _ => 0) 0 [] (.slice none 0 0) [] [] (.slice none 0 0) := by
  have hA : Below w2.heap.size w2 ((w2.alloc (.cells (tabI is.length (fun _ => 0)) 3)).alloc (.cells (tabI is.length (fun _ => 0)) 3)) := ((Below.refl _ _).alloc (Nat.le_refl _) _).alloc (by simp) _
  have hs1 := hb.size
  refine { lo := ⟨hgb, hgl, by omega, by omega, by omega, by omega, by omega⟩, meet := ⟨(hb.trans (hb2.mono hb.size)).trans (hA.mono (hb.trans (hb2.mono hb.size)).size), hs, hws, ⟨by omega, hgb, by omega, by omega⟩, alloc_old (alloc_old hrow), ?_, alloc_old (alloc_old hgone), alloc_old (alloc_old hpass), hw, hlen, hnd⟩, pass := ⟨fun i hi => Nat.zero_le _, fun i hi q hq hqp => absurd hqp (Nat.not_lt_zero q)⟩, got := alloc_old (alloc_at hsz.symm), place := alloc_at (by simp [hsz]), way := World.ownsRow_nil _ _ _ _, cyc := World.ownsRow_nil _ _ _ _, rows := CycS.nil _ _, apart := (fun y hy => by cases hy), run := .nil, gotOk := (fun c hc => by cases hc), wayOk := Way.nil _ _ _ _, placeOk := ⟨fun k hk => absurd hk (Nat.not_lt_zero k), fun i hi _ => rfl⟩, le := Nat.zero_le _, done := fun j hj => absurd hj (Nat.not_lt_zero j) }
  obtain ⟨Dm, ho, hD⟩ := hmap
  exact ⟨Dm, (ho.kept (grown_below hb2 Option.none) (by simp)).kept (grown_below hA Option.none) (by simp), hD⟩
theorem nodup_le : ∀ (n : Nat) (l : List Nat), l.Nodup → (∀ i ∈ l, i < n) → l.length ≤ n
  | 0, l, _, h => by
    cases l with
    | nil => exact Nat.le_refl _
    | cons a l => exact absurd (h a (List.mem_cons_self ..)) (Nat.not_lt_zero a)
  | n + 1, l, hn, h => by
    by_cases hm : n ∈ l
    · have h1 := nodup_le n (l.erase n) (hn.erase n) (fun i hi => by
        have e := (hn.mem_erase_iff).1 hi
        have := h i e.2
        omega)
      rw [List.length_erase_of_mem hm] at h1
      omega
    · have := nodup_le n l hn (fun i hi => by
        have := h i hi
        have : i ≠ n := fun e => hm (e ▸ hi)
        omega)
      omega
theorem RunTo.short {n : Nat} {F : (Nat → Bool) → Nat → Nat} {cs : List (List Nat)} {D : Nat → Bool} (h : RunTo n F cs D) : cs.length + nLeft n D ≤ n := by
  induction h with
  | nil =>
    have : nLeft n (fun _ => false) ≤ n := by unfold nLeft; exact Nat.le_trans List.countP_le_length (by simp)
    simpa using this
  | snoc h1 h2 ih =>
    have := nLeft_gadd h2.toRing
    rw [List.length_append, List.length_singleton]
    omega
theorem oneCell_sl (a : Option Addr) (n c : Nat) : ∀ u ∈ [Value.slice a n c], u.oneCell' = true := by intro u hu; rw [List.mem_singleton] at hu; subst hu; rfl
theorem lenOf_slice (a : Option Addr) (n c : Nat) : lenOf (.slice a n c) = n := rfl
theorem CI.left {W0 : World} {g0 gb go gp : Nat} {ia : Option Addr} {ic : Nat} {is : List Int} {wa : Option Addr} {wc : Nat} {ws : List Wl} {W : World} {D : Nat → Bool} {P : Nat → Nat} {G L : Nat → Int} {at' : Nat} {wl : List Nat} {vw : Value} {cs : List (List Nat)} {gs : List (Nat × Nat)} {vc : Value}
    (h : CI W0 g0 gb go gp ia ic is wa wc ws W D P G L at' wl vw cs gs vc) : leftOf W go = nLeft is.length D := leftOf_eq h.meet.gone
theorem CI.short {W0 : World} {g0 gb go gp : Nat} {ia : Option Addr} {ic : Nat} {is : List Int} {wa : Option Addr} {wc : Nat} {ws : List Wl} {W : World} {D : Nat → Bool} {P : Nat → Nat} {G L : Nat → Int} {at' : Nat} {wl : List Nat} {vw : Value} {cs : List (List Nat)} {gs : List (Nat × Nat)} {vc : Value}
    (h : CI W0 g0 gb go gp ia ic is wa wc ws W D P G L at' wl vw cs gs vc) : wl.length ≤ is.length := nodup_le _ _ h.wayOk.nd h.wayOk.lt
set_option maxRecDepth 100000 in
set_option maxHeartbeats 4000000 in
theorem clear_any (ia : Option Addr) (ic : Nat) (is : List Int) (wa : Option Addr) (wc : Nat) (ws : List Wl) (w : World) (hl1 : is.length ≤ 1000000) (hs : Sl w ia (vI is)) (hw : Wf is) (hws : WsOk w wa ws) :
    Calls Try.prog 12 #[.slice ia is.length ic, .slice wa ws.length wc] w (ClearAns is ws w) := by
  have hl : is.length ≤ 17592186043904 := by omega
  have HS := Lib.hid hs
  have HW := Lib.hid hw
  have HWS := Lib.hid hws
  have K45 := Lib.hid (brought_any ia ic is wa wc ws.length w hl hs hw)
  clear hs hw hws
  unfold ClearAns
  go_enter Try.func12, Try.ntmps12
  go_wp2
  go_step3
  go_wp2_with fail
  refine K45.out.mono ?_
  rintro r w1 ⟨hcase, hb⟩
  have HB := Lib.hid hb
  clear hb K45
  rcases hcase with ⟨rfl, hnm⟩ | ⟨gb, rfl, hm, hmap, hgb⟩
  · have hnil := eql66 none
    go_wp2
    rw [Exit.noGoto_ret]
    go_ret3
    exact ⟨.inl ⟨rfl, hnm⟩, HB.out⟩
  · have HME := Lib.hid hm
    have HMA := Lib.hid hmap
    have HGB := Lib.hid hgb
    have hgl : gb < w1.heap.size := by obtain ⟨Dm, ho, _⟩ := hmap; exact ho.lt
    have HGL := Lib.hid hgl
    have hlen : ws.length = is.length := hm.1.symm
    have HLE := Lib.hid hlen
    rw [hlen]
    clear hm hmap hgb hgl hlen
    have hnil := eql66 (some gb)
    have hm22 := make22 is.length hl
    have hm69 := make69 is.length hl
    go_upto_region 5 with fail
    clear hnil
    go_cut [9] from 30 to 38 (fun s W => ∃ go gp, ((go = w1.heap.size ∧ gp = w1.heap.size + 1) ∨ (go = w1.heap.size + 1 ∧ gp = w1.heap.size)) ∧ s = .pointer (some ⟨w1.heap.size + 2, 0, none⟩) ∧ W.heap.size = w1.heap.size + 3 ∧ Below w1.heap.size w1 W ∧
      W.heap[w1.heap.size + 2]? = some (.cells #[.slice ia is.length ic, .slice wa is.length wc, .map (some gb), .slice (some ⟨go, 0, none⟩) is.length is.length, .slice (some ⟨gp, 0, none⟩) is.length is.length] 71 (0, 0)) ∧
      W.heap[go]? = some (.cells (tabB is.length (fun _ => false)) 4 (0, 0)) ∧ W.heap[gp]? = some (.cells (tabI is.length (fun _ => 0)) 3 (0, 0)))
    case first =>
      have HA := Lib.hid (fun (X Y Z : Obj) => (((Below.refl w1.heap.size w1).alloc (Nat.le_refl _) X).alloc (by simp) Y).alloc (by simp; omega) Z)
      go_region
      all_goals
        go_wp2
        go_meet
        first
          | exact ⟨w1.heap.size, w1.heap.size + 1, .inl ⟨rfl, rfl⟩, rfl, by simp, (HA.out _ _ _).drew, alloc_at (by simp), alloc_old (alloc_old (alloc_at rfl)), alloc_old (alloc_at (by simp))⟩
          | exact ⟨w1.heap.size + 1, w1.heap.size, .inr ⟨rfl, rfl⟩, rfl, by simp, (HA.out _ _ _).drew, alloc_at (by simp), alloc_old (alloc_at (by simp)), alloc_old (alloc_old (alloc_at rfl))⟩
    case rest =>
      obtain ⟨go, gp, hgg, rfl, hsz, hb2, hrow, hgone, hpass⟩ := hcut
      obtain ⟨w2, h2⟩ : ∃ W, W = wc := ⟨_, rfl⟩
      subst h2
      have HST := Lib.hid (CI.start HB.out HS.out HW.out HWS.out HLE.out HME.out.2.1 HMA.out HGB.out HGL.out hgg hsz hb2 hrow hgone hpass)
      have HSZ := Lib.hid hsz
      clear hgg hsz hb2 hrow hgone hpass
      go_wp2
      go_step3
      go_wp2
      have e4 : w2.heap.size + 1 = w1.heap.size + 4 := by rw [HSZ.out]
      rw [e4, HSZ.out]
      clear e4 HSZ hm22 hm69
      go_loopw [11, 12, 14, 15, 16, 17, 18, 19, 21, 22] (fun v11 v12 v14 x15 x16 x17 x18 x19 x21 x22 wr => ∃ (D : Nat → Bool) (P : Nat → Nat) (G L : Nat → Int) (at' : Nat) (wl : List Nat) (vw : Value) (cs : List (List Nat)) (gs : List (Nat × Nat)) (vc : Value),
          vc = v11 ∧ vw = v12 ∧ v14 = .int .i64 at' ∧ CI w w1.heap.size gb go gp ia ic is wa wc ws wr D P G L at' wl vw cs gs vc)
        (fun v11 v12 v14 x15 x16 x17 x18 x19 x21 x22 wr => leftOf wr go * (is.length + 1) + (is.length - lenOf v12) + (is.length - (intOf v14).toNat))
      case atStart => exact ⟨_, _, _, _, 0, [], _, [], [], _, rfl, rfl, rfl, HST.out⟩
      case round =>
        clear HST
        obtain ⟨D, P, G, L, at', wl, vw, cs, gs, vc, hv1, hv2, rfl, hci⟩ := hrel
        subst hv1 hv2
        have HCI := Lib.hid hci
        obtain ⟨wad, wcap, rfl, hwle, hwcm, hwsome, hwnone⟩ := owns_len hci.way
        have hle := hci.le
        clear hci
        obtain ⟨w3, h3⟩ : ∃ W, W = wr := ⟨_, rfl⟩
        subst h3
        go_upto_region 11 with fail
        go_cut [50] from 43 to 50 (fun s W => s = .bool (decide (at' < is.length ∨ 0 < wl.length)) ∧ w3 = W)
        case first =>
          by_cases h1 : at' < is.length
          · have t0 : decide ((at' : Int) < (is.length : Int)) = true := by simp; omega
            go_wp2
            go_meet
            exact ⟨by simp [h1], rfl⟩
          · have t0 : decide ((at' : Int) < (is.length : Int)) = false := by simp; omega
            by_cases h2 : 0 < wl.length
            · have t1 : decide ((wl.length : Int) > 0) = true := decide_eq_true (by omega)
              go_wp2
              go_meet
              exact ⟨by simp [h2], rfl⟩
            · have t1 : decide ((wl.length : Int) > 0) = false := decide_eq_false (by omega)
              go_wp2
              go_meet
              exact ⟨by simp [h1, h2], rfl⟩
        case rest =>
          obtain ⟨rfl, hwc⟩ := hcut
          subst hwc
          by_cases hgo : at' < is.length ∨ 0 < wl.length
          case neg =>
            have t0 : decide (at' < is.length ∨ 0 < wl.length) = false := decide_eq_false hgo
            rw [t0]
            go_wp2
            rw [Exit.noGoto_ret]
            go_ret3
            have hat : at' = is.length := by omega
            exact ⟨.inr ⟨HME.out, cs, gs, D, w1.heap.size + 3, G, vc, w1.heap.size + 5, rfl, HCI.out.run, fun i hi => HCI.out.done i (by omega), HCI.out.gotOk, HCI.out.got, by have := HB.out.size; omega, by omega, HCI.out.cyc, HCI.out.rows⟩, HCI.out.meet.base⟩
          case pos =>
            rw [decide_eq_true hgo]
            go_upto_if 53 with fail
            go_cut [12, 14] from 51 to 69 (fun s s14 W => ∃ (L' : Nat → Int) (wl' : List Nat) (vw' : Value), vw' = s ∧ s14 = .int .i64 at' ∧ 0 < wl'.length ∧ wl.length ≤ wl'.length ∧ CI w w1.heap.size gb go gp ia ic is wa wc ws W D P G L' at' wl' vw' cs gs vc)
            case first =>
              by_cases hw0 : wl.length = 0
              · have hwe : wl = [] := List.eq_nil_of_length_eq_zero hw0
                subst hwe
                have hat : at' < is.length := by rcases hgo with h | h; exact h; exact absurd h (Nat.lt_irrefl 0)
                have c3 : w3.cell? ⟨w1.heap.size + 2, 3, none⟩ = some (.slice (some ⟨go, 0, none⟩) is.length is.length) := (cells5 HCI.out.meet.row).2.2.2.1
                have z0 := tabB_cell HCI.out.meet.gone at' hat
                have i0 : (at' : Int) < (is.length : Int) := by omega
                clear hgo hw0
                by_cases hD : D at' = true
                · rw [hD] at z0
                  have HD := Lib.hid hD
                  clear hD
                  go_wp2
                  go_roundw
                  case rel => exact ⟨D, P, G, L, at' + 1, [], _, cs, gs, vc, rfl, rfl, by go_num, HCI.out.next hat HD.out⟩
                  case measure => simp [intOf]; omega
                · have hD' : D at' = false := by simpa using hD
                  rw [hD'] at z0
                  have HD := Lib.hid hD'
                  clear hD hD'
                  have hbs : w1.heap.size + 5 ≤ (w3.alloc (.cells #[.int .i64 at'] 3)).heap.size := by have := HCI.out.size; simp; omega
                  have h63 : 0 + 1 ≤ maxLen := by unfold maxLen; omega
                  have hby : (0 + 1) * 8 ≤ 140737488355328 := by omega
                  have HBA := Lib.hid ((Below.refl w3.heap.size w3).alloc (Nat.le_refl _) (.cells #[.int .i64 at'] 3))
                  go_wp2_with (first
                    | (at_builtin; refine wpList_append_sl_at rfl _ _ 22 rfl (w1.heap.size + 5) 3 (.int .i64 0) 1 8 Try.underlying22 infoI (by rfl) (by decide) (.slice wad 0 wcap) (0) (vN []) (by rfl) (HCI.out.way.alloc _) (some ⟨w3.heap.size, 0, none⟩) 1 1 (vN [at']) (by rfl) (fun h => by cases h) (by rfl) (sl_new _ _ _ _) (oneCell_vN _) h63 hby hbs ?a9; intro v2 w4 ho2 hg2 hl2; have hpl := row_past (alloc_old (p := .cells #[.int .i64 at'] 3) HCI.out.place) hg2 (fun e => by have := (HCI.out.way.lt _ e.symm).1; omega); obtain ⟨a2, c2, rfl, _, _, _, _⟩ := owns_len ho2)
                    | ((with_reducible refine at_store_op ?_); refine wpList_store_lit 3 (w1.heap.size + 4) at' (tabI is.length (upd L at' (((0 + 1 : Nat) : Int)))) (.int .i64 (((0 + 1 : Nat) : Int))) hpl sz3 (by rw [tabI_size]; exact hat) rfl (tabI_set _ _ _ hat _) ?_ ?_ ?_; exact rfl; exact rfl; intro w5 hp5))
                  go_meet
                  refine ⟨_, [at'], _, rfl, rfl, by simp, by simp, HCI.out.push (wl := []) hat (by simp) (Way.one hat HD.out) HBA.out ?_ hg2 hl2 hp5⟩
                  simpa [vN] using ho2
              · have t1 : ((wl.length : Int) == 0) = false := beq_eq_false_iff_ne.2 (by omega)
                have HGO := Lib.hid hgo
                clear hgo
                go_wp2
                go_meet
                exact ⟨L, wl, _, rfl, rfl, by omega, Nat.le_refl _, HCI.out⟩
            case rest =>
              obtain ⟨L', wl', vw', rfl, rfl, h0, hlw, hci⟩ := hcut
              obtain ⟨w5, h5⟩ : ∃ W, W = wc := ⟨_, rfl⟩
              subst h5
              have HC2 := Lib.hid hci
              have HLF := Lib.hid HCI.out.left
              have hat := hci.le
              obtain ⟨vad, vcap, rfl, hvle, hvcm, hvsome, hvn⟩ := owns_len hci.way
              obtain ⟨gw, rfl⟩ := hvsome h0
              obtain ⟨m, hm⟩ : ∃ m, wl'.length = m + 1 := ⟨wl'.length - 1, by omega⟩
              have hlt := hci.wayOk.lt _ (getD_mem (show m < wl'.length by omega))
              have zl : w5.cell? ⟨gw, m, none⟩ = some (.int .i64 ((wl'.getD m 0 : Nat) : Int)) := owns_cell hci.way m (vN_get wl' m (by omega))
              have HPT := Lib.hid (pts_left (ws := ws.map Wl.l) hlt (hci.wayOk.left _ (getD_mem (show m < wl'.length by omega))))
              have K46 := Lib.hid (points_any (wl'.getD m 0) hlt w5 hl hci.meet hci.pass)
              obtain ⟨nx, hnx⟩ : ∃ x, x = pts is (ws.map Wl.l) D (wl'.getD m 0) := ⟨_, rfl⟩
              rw [← hnx] at K46 HPT
              have HNX := Lib.hid (show pts is (ws.map Wl.l) D (wl'.getD (wl'.length - 1) 0) = nx by rw [show wl'.length - 1 = m by omega]; exact hnx.symm)
              generalize wl'.getD m 0 = last at zl K46 hnx hlt
              have HMM := Lib.hid hm
              have HHN := Lib.hid hnx
              rw [hm]
              have hmn : m + 1 ≤ is.length := by have := hci.short; omega
              have hlwm : wl.length ≤ m + 1 := by omega
              have hmv : m + 1 ≤ vcap := by omega
              clear hci hvsome hvn hnx hm h0 hlw hvle HCI hwsome hwnone hgo
              go_wp2_with fail
              refine K46.out.mono ?_
              rintro r0 w6 ⟨rfl, ho6, P', hm6, hp6⟩
              have HC3 := Lib.hid (HC2.out.point ho6 hm6 hp6)
              have HLF6 := Lib.hid (HLF.out.trans HC3.out.left.symm)
              clear K46 HC2 ho6 hm6 hp6 zl HLF
              have hnl := HPT.out.1
              have zp := tabI_cell HC3.out.place nx hnl
              have inx : (nx : Int) < (is.length : Int) := by omega
              have HWY := Lib.hid (show w6.ownsRow (w1.heap.size + 5) 3 1 (.slice (some ⟨gw, 0, none⟩) (m + 1) vcap) (m + 1) (vN wl') by rw [← HMM.out]; exact HC3.out.way)
              by_cases hin : nx ∈ wl'
              case neg =>
                rw [HC3.out.placeOk.2 nx hnl hin] at zp
                have HIN := Lib.hid hin
                clear hin
                have hbs : w1.heap.size + 5 ≤ (w6.alloc (.cells #[.int .i64 nx] 3)).heap.size := by have := HC3.out.size; simp; omega
                have h63 : m + 1 + 1 ≤ maxLen := by unfold maxLen; omega
                have hby : (m + 1 + 1) * 8 ≤ 140737488355328 := by omega
                have HBA := Lib.hid ((Below.refl w6.heap.size w6).alloc (Nat.le_refl _) (.cells #[.int .i64 nx] 3))
                go_wp2_with (first
                  | (at_builtin; refine wpList_append_sl_at rfl _ _ 22 rfl (w1.heap.size + 5) 3 (.int .i64 0) 1 8 Try.underlying22 infoI (by rfl) (by decide) (.slice (some ⟨gw, 0, none⟩) (m + 1) vcap) (m + 1) (vN wl') (by rfl) (HWY.out.alloc _) (some ⟨w6.heap.size, 0, none⟩) 1 1 (vN [nx]) (by rfl) (fun h => by cases h) (by rfl) (sl_new _ _ _ _) (oneCell_vN _) h63 hby hbs ?a8; intro v2 w7 ho2 hg2 hl2; have hpl := row_past (alloc_old (p := .cells #[.int .i64 nx] 3) HC3.out.place) hg2 (fun e => by have := (HWY.out.lt _ e.symm).1; omega); obtain ⟨a2, c2, rfl, _, _, _, _⟩ := owns_len ho2)
                  | ((with_reducible refine at_store_op ?_); refine wpList_store_lit 3 (w1.heap.size + 4) nx (tabI is.length (upd L' nx (((m + 1 + 1 : Nat) : Int)))) (.int .i64 ((m + 1 + 1 : Nat) : Int)) hpl sz3 (by rw [tabI_size]; exact hnl) rfl (tabI_set _ _ _ hnl _) ?_ ?_ ?_; exact rfl; exact rfl; intro w8 hp8))
                have HFIN := Lib.hid (show CI w w1.heap.size gb go gp ia ic is wa wc ws w8 D P' G (upd L' nx ((wl'.length + 1 : Nat) : Int)) at' (wl' ++ [nx]) (.slice a2 (m + 1 + 1) c2) cs gs vc from
                  HC3.out.push hnl HIN.out (HC3.out.wayOk.snoc (by rw [HMM.out]; omega) HNX.out HIN.out hnl HPT.out.2) HBA.out (by rw [vN_append, List.length_append, HMM.out]; exact ho2) hg2 hl2 (by rw [HMM.out]; exact hp8))
                go_roundw
                case rel => exact ⟨D, P', G, _, at', wl' ++ [nx], _, cs, gs, vc, rfl, rfl, by trivial, HFIN.out⟩
                case measure =>
                  have e1 := HFIN.out.left
                  have e2 := HLF6.out.trans HC3.out.left
                  have e3 := HFIN.out.short
                  rw [List.length_append, List.length_singleton, HMM.out] at e3
                  rw [e1, e2]
                  simp only [lenOf]
                  omega
              case pos =>
                obtain ⟨p, hp, hpx⟩ := mem_getD hin
                have HPP := Lib.hid hp
                rw [show L' nx = ((p : Int) + 1) by rw [← hpx, HC3.out.placeOk.1 p hp]; omega] at zp
                have HRX := Lib.hid (HNX.out.trans hpx.symm)
                have t3 : (((p : Int) + 1) == 0) = false := beq_eq_false_iff_ne.2 (by omega)
                obtain ⟨cl, hcl⟩ : ∃ cl, m + 1 = p + cl := ⟨m + 1 - p, by have := HMM.out; omega⟩
                have hcl0 : 0 < cl := by have := HMM.out; omega
                have hclm : cl ≤ 17592186043904 := by omega
                have hpm : p < m + 1 := by omega
                have hr22 : ∀ W, (Instr.slice 22 (.slice (some ⟨gw, 0, none⟩) (m + 1) vcap) (some (.int .i64 (p : Int))) none none).run Try.prog W = .ok (.slice (some ⟨gw, p, none⟩) cl (vcap - p)) W := fun W => by
                  have := run_slice_lo (P := Try.prog) Try.underlying22 sz3 (some ⟨gw, 0, none⟩) (m + 1) vcap .i64 p p cl rfl hcl W
                  rw [this]
                  have e : piece (some ⟨gw, 0, none⟩) p vcap 1 = some ⟨gw, p, none⟩ := by
                    unfold piece
                    rw [if_neg (by omega)]
                    simp [Addr.add]
                    try omega
                  rw [e]
                have hr34 : ∀ W, (Instr.slice 22 (.slice (some ⟨gw, 0, none⟩) (m + 1) vcap) none (some (.int .i64 0)) none).run Try.prog W = .ok (.slice (some ⟨gw, 0, none⟩) 0 vcap) W := fun W =>
                  run_slice_hi (P := Try.prog) Try.underlying22 sz3 (some ⟨gw, 0, none⟩) ⟨gw, 0, rfl⟩ (m + 1) vcap .i64 0 0 rfl (Nat.zero_le _) W
                have HRING := Lib.hid (HC3.out.wayOk.ring HPP.out HRX.out)
                have HCL := Lib.hid (show (wl'.drop p).length = cl by rw [List.length_drop, HMM.out]; omega)
                have HCG := Lib.hid (show ∀ k, (wl'.drop p).getD k 0 = wl'.getD (p + k) 0 from fun k => by simp [List.getD_eq_getElem?_getD, List.getElem?_drop])
                have HMP := Lib.hid hcl
                have HC0 := Lib.hid hcl0
                have HGWL := Lib.hid (HWY.out.lt gw rfl)
                -- the way's cells
                have HZW := Lib.hid (show ∀ (W : World), (∀ k, k < m + 1 → W.cell? ⟨gw, k, none⟩ = w6.cell? ⟨gw, k, none⟩) → ∀ k, k < cl → W.cell? ⟨gw, p + k, none⟩ = some (.int .i64 (((wl'.drop p).getD k 0 : Nat) : Int)) from fun W h k hk => by
                  have := HMP.out
                  rw [h _ (by omega), HCG.out]
                  exact owns_cell HWY.out (p + k) (vN_get wl' (p + k) (by rw [HMM.out]; omega)))
                clear hin hp hpx
                obtain ⟨c, hc⟩ : ∃ c, c = wl'.drop p := ⟨_, rfl⟩
                rw [← hc] at HRING HCL HCG HZW
                have HCE := Lib.hid hc
                clear hc hcl
                go_wp2_with ((with_reducible refine at_slice_op ?_); refine wpList_slice_lo Try.underlying22 (.slice (some ⟨gw, 0, none⟩) (m + 1) vcap) (.int .i64 (p : Int)) _ ?_ ?_ hr22 ?_; exact rfl; exact rfl)
                -- what each gets, who is gone
                go_loopw [18, 19, 102] (fun x18 x19 i wr => ∃ k : Nat, k ≤ cl ∧ i = .int .i64 k ∧ Only (fun b => b = w1.heap.size + 3 ∨ b = go ∨ b = w1.heap.size + 4) w6 wr ∧
                    wr.heap[w1.heap.size + 3]? = some (.cells (tabI is.length (gotF G is c k)) 3 (0, 0)) ∧ wr.heap[go]? = some (.cells (tabB is.length (goneF D c k)) 4 (0, 0)) ∧ wr.heap[w1.heap.size + 4]? = some (.cells (tabI is.length L') 3 (0, 0))) (fun _ _ i _ => cl - (intOf i).toNat)
                case atStart => exact ⟨0, by omega, rfl, Only.refl _ _, HC3.out.got, HC3.out.meet.gone, HC3.out.place⟩
                case round =>
                  clear zp
                  obtain ⟨k, hk, rfl, ho, hgot, hgone, hplc⟩ := hrel
                  have HO := Lib.hid ho
                  have HGOT := Lib.hid hgot
                  have HGONE := Lib.hid hgone
                  have HPLC := Lib.hid hplc
                  clear ho hgot hgone hplc
                  have HWC := Lib.hid (show ∀ k, k < m + 1 → wr.cell? ⟨gw, k, none⟩ = w6.cell? ⟨gw, k, none⟩ from fun k hk => by
                    have hb := HO.out.block gw HGWL.out.2 (fun e => by have := HGWL.out.1; have := HC3.out.lo; rcases e with e | e | e <;> omega)
                    unfold World.cell?
                    rw [hb])
                  by_cases hlk : k < cl
                  · have t4 : decide ((k : Int) < (cl : Int)) = true := by simp; omega
                    have ik : (k : Int) < (cl : Int) := by omega
                    have q0 := HZW.out wr HWC.out k hlk
                    obtain ⟨q, hq⟩ : ∃ q, q = (k + 1) % cl := ⟨_, rfl⟩
                    have hql : q < cl := by rw [hq]; exact Nat.mod_lt _ HC0.out
                    have iq : (q : Int) < (cl : Int) := by omega
                    have e1 : ((k : Int) + 1).tmod (cl : Int) = (q : Int) := by
                      rw [hq, Int.tmod_eq_emod_of_nonneg (by omega)]
                      simp
                    have q1 := HZW.out wr HWC.out q hql
                    have h1 := HRING.out.lt _ (getD_mem (show k < c.length by rw [HCL.out]; exact hlk))
                    have h2 := HRING.out.lt _ (getD_mem (show q < c.length by rw [HCL.out]; exact hql))
                    have HGS := Lib.hid (show gotF G is c (k + 1) = upd (gotF G is c k) (c.getD k 0) (is.getD (c.getD q 0) 0) by rw [gotF, HCL.out, ← hq])
                    have HDS := Lib.hid (show goneF D c (k + 1) = upd (goneF D c k) (c.getD k 0) true from rfl)
                    clear hq
                    have hlo := HC3.out.lo
                    have hbw := HC3.out.meet.base.trans (HO.out.below HC3.out.meet.base.size (fun b hb => by rcases hb with e | e | e <;> omega))
                    obtain ⟨ib, io, rfl, q2⟩ := int_at (HC3.out.meet.items.below hbw HC3.out.meet.items.lt) (c.getD q 0) h2
                    have HRW := Lib.hid (HO.out.row HC3.out.meet.row (fun e => by rcases e with e | e | e <;> omega))
                    have HGE := Lib.hid (show is.getD (c.getD q 0) 0 = is[c.getD q 0] by rw [List.getD_eq_getElem?_getD, List.getElem?_eq_getElem h2]; rfl)
                    rw [HGE.out] at HGS
                    have hck : ((c.getD k 0 : Nat) : Int) < (is.length : Int) := by omega
                    have hcq : ((c.getD q 0 : Nat) : Int) < (is.length : Int) := by omega
                    clear hlo hbw HGE
                    generalize is[c.getD q 0] = gv at q2 HGS
                    generalize c.getD k 0 = ck at q0 h1 hck HGS HDS
                    generalize c.getD q 0 = cq at q1 h2 q2 hcq
                    have HNE := Lib.hid (show go ≠ w1.heap.size + 3 ∧ w1.heap.size + 2 ≠ w1.heap.size + 3 ∧ w1.heap.size + 4 ≠ w1.heap.size + 3 ∧ w1.heap.size + 3 ≠ go ∧ w1.heap.size + 4 ≠ go from by have := HC3.out.lo; omega)
                    go_wp2_with (first
                      | ((with_reducible refine at_store_op ?_); refine wpList_store_lit 3 (w1.heap.size + 3) ck (tabI is.length (gotF G is c (k + 1))) (.int .i64 gv) HGOT.out sz3 (by rw [tabI_size]; exact h1) rfl (by rw [HGS.out]; exact tabI_set _ _ _ h1 _) ?_ ?_ ?_; exact rfl; exact rfl; intro w8 hp8; have c3 : w8.cell? ⟨w1.heap.size + 2, 3, none⟩ = some (.slice (some ⟨go, 0, none⟩) is.length is.length) := (cells5 (hp8.row HRW.out HNE.out.2.1)).2.2.2.1; have HG8 := Lib.hid (hp8.row HGONE.out HNE.out.1))
                      | ((with_reducible refine at_store_op ?_); refine wpList_store_lit 4 go ck (tabB is.length (goneF D c (k + 1))) (.bool true) HG8.out sz4 (by rw [tabB_size]; exact h1) rfl (by rw [HDS.out]; exact tabB_set _ _ _ h1 _) ?_ ?_ ?_; exact rfl; exact rfl; intro w9 hp9))
                    go_roundw
                    case rel => exact ⟨k + 1, by omega, by go_num, Only.put (Only.put HO.out hp8 (.inl rfl)) hp9 (.inr (.inl rfl)), hp9.row hp8.at' HNE.out.2.2.2.1, hp9.at', hp9.row (hp8.row HPLC.out HNE.out.2.2.1) HNE.out.2.2.2.2⟩
                    case measure => simp [intOf]; omega
                  · have t4 : decide ((k : Int) < (cl : Int)) = false := by simp; omega
                    have hke : k = cl := by omega
                    have HGOT := Lib.hid (show wr.heap[w1.heap.size + 3]? = some (.cells (tabI is.length (gotF G is c cl)) 3 (0, 0)) by rw [← hke]; exact HGOT.out)
                    have HGONE := Lib.hid (show wr.heap[go]? = some (.cells (tabB is.length (goneF D c cl)) 4 (0, 0)) by rw [← hke]; exact HGONE.out)
                    have HKE := Lib.hid hke
                    clear hke
                    obtain ⟨w7, h7⟩ : ∃ W, W = wr := ⟨_, rfl⟩
                    subst h7
                    go_wp2
                    -- the places
                    go_loopw [21, 130] (fun x21 i wr => ∃ k : Nat, k ≤ m + 1 ∧ i = .int .i64 k ∧ Only (fun b => b = w1.heap.size + 4) w7 wr ∧ wr.heap[w1.heap.size + 4]? = some (.cells (tabI is.length (plF L' wl' k)) 3 (0, 0))) (fun _ i _ => m + 1 - (intOf i).toNat)
                    case atStart => exact ⟨0, by omega, rfl, Only.refl _ _, HPLC.out⟩
                    case round =>
                      clear hlk hk t4
                      obtain ⟨k, hk, rfl, ho, hplc⟩ := hrel
                      have HO3 := Lib.hid ho
                      have HPL3 := Lib.hid hplc
                      clear ho hplc
                      have HWD := Lib.hid (show ∀ k, k < m + 1 → wr.cell? ⟨gw, k, none⟩ = w6.cell? ⟨gw, k, none⟩ from fun k hk => by
                        rw [← HWC.out k hk]
                        have hb := HO3.out.block gw (Nat.lt_of_lt_of_le HGWL.out.2 HO.out.size) (fun e => by have := HGWL.out.1; omega)
                        unfold World.cell?
                        rw [hb])
                      by_cases hlk : k < m + 1
                      · have t4 : decide ((k : Int) < ((m + 1 : Nat) : Int)) = true := by simp; omega
                        have ik : (k : Int) < ((m + 1 : Nat) : Int) := by omega
                        have q0 : wr.cell? ⟨gw, k, none⟩ = some (.int .i64 ((wl'.getD k 0 : Nat) : Int)) := by
                          rw [HWD.out k hlk]; exact owns_cell HWY.out k (vN_get wl' k (by rw [HMM.out]; exact hlk))
                        have h1 := HC3.out.wayOk.lt _ (getD_mem (show k < wl'.length by rw [HMM.out]; exact hlk))
                        have hck : ((wl'.getD k 0 : Nat) : Int) < (is.length : Int) := by omega
                        have HPS := Lib.hid (show plF L' wl' (k + 1) = upd (plF L' wl' k) (wl'.getD k 0) 0 from rfl)
                        generalize wl'.getD k 0 = ck at q0 h1 hck HPS
                        go_wp2_with ((with_reducible refine at_store_op ?_); refine wpList_store_lit 3 (w1.heap.size + 4) ck (tabI is.length (plF L' wl' (k + 1))) (.int .i64 0) HPL3.out sz3 (by rw [tabI_size]; exact h1) rfl (by rw [HPS.out]; exact tabI_set _ _ _ h1 _) ?_ ?_ ?_; exact rfl; exact rfl; intro w8 hp8)
                        go_roundw
                        case rel => exact ⟨k + 1, by omega, by go_num, Only.put HO3.out hp8 rfl, hp8.at'⟩
                        case measure => simp [intOf]; omega
                      · have t4 : decide ((k : Int) < ((m + 1 : Nat) : Int)) = false := by simp; omega
                        have hke : k = m + 1 := by omega
                        have HPL3 := Lib.hid (show wr.heap[w1.heap.size + 4]? = some (.cells (tabI is.length (plF L' wl' wl'.length)) 3 (0, 0)) by rw [HMM.out, ← hke]; exact HPL3.out)
                        have HKE := Lib.hid hke
                        clear hke
                        obtain ⟨w8, h8⟩ : ∃ W, W = wr := ⟨_, rfl⟩
                        subst h8
                        have HWE := Lib.hid (HZW.out w8 HWD.out)
                        obtain ⟨ci, hci⟩ : ∃ l, l = c.map (fun (i : Nat) => (i : Int)) := ⟨_, rfl⟩
                        have hcil : ci.length = cl := by rw [hci, List.length_map]; exact HCL.out
                        have HCI3 := Lib.hid hci
                        have HSLC := Lib.hid (show Sl w8 (some ⟨gw, p, none⟩) (vI ci) from fun _ => ⟨gw, p, rfl, fun i hi => by
                          rw [vI_length, hcil] at hi
                          rw [HWE.out i hi, hci, ← vN_eq, vN_get c i (by rw [HCL.out]; exact hi)]⟩)
                        have HCIG := Lib.hid (show ∀ (j : Nat) (x : Int), ci[j]? = some x → j < cl ∧ x = ((c.getD j 0 : Nat) : Int) from fun j x h => by
                          have hj : j < ci.length := (List.getElem?_eq_some_iff.1 h).1
                          rw [hcil] at hj
                          refine ⟨hj, ?_⟩
                          rw [hci, List.getElem?_map, List.getElem?_eq_getElem (by rw [HCL.out]; exact hj)] at h
                          rw [List.getD_eq_getElem?_getD, List.getElem?_eq_getElem (by rw [HCL.out]; exact hj)]
                          exact (Option.some.inj h).symm)
                        have K48 := Lib.hid (min_any (some ⟨gw, p, none⟩) (vcap - p) ci w8 (by omega) HSLC.out (by omega))
                        have K47 := Lib.hid (fun x hx => index_any (some ⟨gw, p, none⟩) (vcap - p) ci x w8 (by omega) HSLC.out hx)
                        have HCLI := Lib.hid hcil
                        rw [hcil] at K47 K48
                        clear hci hcil
                        go_wp2_with ((with_reducible refine at_slice_op ?_); refine wpList_slice_hi Try.underlying22 (.slice (some ⟨gw, 0, none⟩) (m + 1) vcap) (.int .i64 0) _ ?_ ?_ hr34 ?_; exact rfl; exact rfl)
                        refine K48.out.mono ?_
                        rintro r1 w9 ⟨⟨mv, rfl, hmv, hmin⟩, rfl⟩
                        have K47 := Lib.hid (K47.out mv hmv)
                        have HMIN := Lib.hid hmin
                        clear hmv hmin K48
                        go_wp2_with fail
                        refine K47.out.mono ?_
                        rintro r1 w9 ⟨⟨j, rfl, hj, _⟩, rfl⟩
                        obtain ⟨hjl, hje⟩ := HCIG.out j mv hj
                        have HLE := Lib.hid (show ∀ i ∈ c, c.getD j 0 ≤ i from fun i hi => by
                          have := HMIN.out (i : Int) (by rw [HCI3.out]; exact List.mem_map.2 ⟨i, hi, rfl⟩)
                          rw [hje] at this
                          omega)
                        obtain ⟨dj, hdj⟩ : ∃ d, cl = j + d := ⟨cl - j, by omega⟩
                        have hdm : dj ≤ 17592186043904 := by omega
                        have hjm : j ≤ vcap - p := by have := HMP.out; omega
                        have hjc : j < vcap - p := by have := HMP.out; omega
                        have HDJ := Lib.hid hdj
                        have HJL := Lib.hid hjl
                        have hrA : ∀ W, (Instr.slice 22 (.slice (some ⟨gw, p, none⟩) cl (vcap - p)) (some (.int .i64 (j : Int))) none none).run Try.prog W = .ok (.slice (some ⟨gw, p + j, none⟩) dj (vcap - p - j)) W := fun W => by
                          have := run_slice_lo (P := Try.prog) Try.underlying22 sz3 (some ⟨gw, p, none⟩) cl (vcap - p) .i64 j j dj rfl HDJ.out W
                          rw [this]
                          have e : piece (some ⟨gw, p, none⟩) j (vcap - p) 1 = some ⟨gw, p + j, none⟩ := by
                            unfold piece
                            rw [if_neg (by omega)]
                            simp [Addr.add]
                          rw [e]
                        have hrB : ∀ W, (Instr.slice 22 (.slice (some ⟨gw, p, none⟩) cl (vcap - p)) none (some (.int .i64 (j : Int))) none).run Try.prog W = .ok (.slice (some ⟨gw, p, none⟩) j (vcap - p)) W := fun W =>
                          run_slice_hi (P := Try.prog) Try.underlying22 sz3 (some ⟨gw, p, none⟩) ⟨gw, p, rfl⟩ cl (vcap - p) .i64 j j rfl hjm W
                        clear hj hje hdj hjl
                        have HDR := Lib.hid (show Sl w8 (some ⟨gw, p + j, none⟩) (vI (ci.drop j)) from fun _ => ⟨gw, p + j, rfl, fun i hi => by
                          have hl := HCLI.out
                          have hd := HDJ.out
                          rw [vI_length, List.length_drop, hl] at hi
                          rw [Nat.add_assoc, HWE.out (j + i) (by omega), HCI3.out, ← List.map_drop, ← vN_eq, vN_get _ _ (by rw [List.length_drop, HCL.out]; omega)]
                          congr 3
                          simp [List.getD_eq_getElem?_getD, List.getElem?_drop]⟩)
                        have HTK := Lib.hid (show Sl w8 (some ⟨gw, p, none⟩) (vI (ci.take j)) from fun _ => ⟨gw, p, rfl, fun i hi => by
                          have hl := HCLI.out
                          have hd := HDJ.out
                          rw [vI_length, List.length_take, hl] at hi
                          rw [HWE.out i (by omega), HCI3.out, ← List.map_take, ← vN_eq, vN_get _ _ (by rw [List.length_take, HCL.out]; omega)]
                          congr 3
                          simp [List.getD_eq_getElem?_getD, List.getElem?_take, show i < j by omega]⟩)
                        have hdl : (ci.drop j).length = dj := by rw [List.length_drop, HCLI.out]; have := HDJ.out; omega
                        have htl : (ci.take j).length = j := by rw [List.length_take, HCLI.out]; have := HDJ.out; omega
                        have K49 := Lib.hid (fun V (h : Below w8.heap.size w8 V) => clone_any gw (p + j) (vcap - p - j) (ci.drop j) V (by omega) (HDR.out.kept h))
                        rw [hdl] at K49
                        have HTL := Lib.hid (show (vI (ci.take j)).length = j * 1 by rw [vI_length, htl, Nat.mul_one])
                        have HRT := Lib.hid (show vI (ci.drop j) ++ vI (ci.take j) = vN (rot j c) by
                          rw [← vI_append, vN_eq, rot, List.map_append, HCI3.out, List.map_drop, List.map_take])
                        have HVC := Lib.hid (show w8.ownsRow (w1.heap.size + 5) 22 1 vc cs.length (cyV cs gs) from
                          HO3.out.owns (HO.out.owns HC3.out.cyc (fun k hk e => by have := (HC3.out.cyc.lt k hk).1; have := HC3.out.lo; rcases e with e | e | e <;> omega)) (fun k hk e => by have := (HC3.out.cyc.lt k hk).1; omega))
                        have hw0 : Below w8.heap.size w8 w8.drew := below_drawn (Below.refl _ _) _
                        have B1 := Lib.hid (show dj + j ≤ maxLen by have := HDJ.out; unfold maxLen; omega)
                        have B2 := Lib.hid (show (dj + j) * 8 ≤ 140737488355328 by have := HDJ.out; omega)
                        have hcsl : cs.length ≤ 1000000 := Nat.le_trans (Nat.le_trans (Nat.le_add_right _ _) HC3.out.run.short) hl1
                        have B3 := Lib.hid (show cs.length + 1 ≤ maxLen by unfold maxLen; omega)
                        have B4 := Lib.hid (show (cs.length + 1) * 24 ≤ 140737488355328 by omega)
                        have B6 := Lib.hid (show 0 < dj + j by have := HDJ.out; have := HC0.out; omega)
                        have B5 := Lib.hid (show w1.heap.size + 5 ≤ w8.heap.size from Nat.le_trans HC3.out.size (Nat.le_trans HO.out.size HO3.out.size))
                        clear hdl htl hjm hjc
                        go_wp2
                        go_region_held3 (fun V => True) (exact trivial)
                          ((first
                            | (go_at_call 49; (with_reducible refine (K49.out _ hw0).mono ?_); rintro r1 y1 ⟨v1, rfl, ho1, hb1⟩; have hy1 : Below w8.heap.size w8 y1 := hw0.trans hb1)
                            | ((with_reducible refine at_append_step ?_); refine step_append_sl_at (by rfl) _ _ 22 (by rfl) w8.heap.size 3 (.int .i64 0) 1 8 Try.underlying22 infoI (by rfl) (by decide) v1 dj (vI (ci.drop j)) (by rfl) ho1 (some ⟨gw, p, none⟩) j (vcap - p) (vI (ci.take j)) (by rfl) (fun h => by cases h) HTL.out (HTK.out.kept hy1) (oneCell_vI _) B1.out B2.out hy1.size ?_; intro v2 y2 ho2 hg2 hl2
                               have hvc1 := owns_below (B := 0) HVC.out hy1; have hvc2 := hvc1.kept hg2 (owns_apart' hvc1 ho1 (by decide)); obtain ⟨a2, k2, rfl, hk1, hk2, hsome2, hk3⟩ := owns_len ho2; obtain ⟨q2, rfl⟩ := hsome2 B6.out)
                            | ((with_reducible refine at_append_step ?_); refine step_append_sl_at (by rfl) _ _ 23 (by rfl) (w1.heap.size + 5) 22 (.slice none 0 0) 1 24 Try.underlying23 infoS (by rfl) (by decide) vc cs.length (cyV cs gs) (by rfl) (hvc2.alloc _) (some ⟨y2.heap.size, 0, none⟩) 1 1 [.slice (some ⟨q2, 0, none⟩) (dj + j) k2] (by rfl) (fun h => by cases h) (by rfl) (sl_new _ _ _ _) (oneCell_sl _ _ _) B3.out B4.out (Nat.le_trans B5.out (Nat.le_trans hy1.size (Nat.le_trans hg2.size (Nat.le_of_lt (by simp))))) ?_; intro v3 y3 ho3 hg3 hl3)))
                        have HFIN := Lib.hid (show CI w w1.heap.size gb go gp ia ic is wa wc ws y3 (gadd D (rot j c)) P' (gotF G is c cl) (plF L' wl' wl'.length) at' [] (.slice (some ⟨gw, 0, none⟩) 0 vcap) (cs ++ [rot j c]) (gs ++ [(q2, k2)]) v3 by
                          have e1 := HCE.out
                          have e2 := HCL.out
                          have e3 := HDJ.out
                          have e4 : dj + j = cl := by omega
                          rw [e4, HRT.out] at ho2
                          rw [e4] at ho3
                          have e5 := HC3.out.lo
                          have a1 := HO.out.trans HO3.out (fun n hn => .inl (.inr (.inr hn)))
                          have a2 := HO3.out.row HGOT.out (show ¬ w1.heap.size + 3 = w1.heap.size + 4 by omega)
                          have a3 := HO3.out.row HGONE.out (show ¬ go = w1.heap.size + 4 by omega)
                          have a4 := hy1.grown hg2 hy1.size (fun k hk => (ho1.lt k hk).1)
                          have a5 := HJL.out
                          subst e1
                          rw [← e2] at ho2 ho3 a2 a3 a5 ⊢
                          exact HC3.out.cycle HPP.out HRX.out a5 HLE.out a1 a2 a3 HPL3.out a4 ho2 rfl ((Below.refl _ _).alloc (Nat.le_refl _) _) hg3 ho3)
                        go_wp2
                        go_roundw
                        case rel => exact ⟨_, P', _, _, at', [], _, _, _, v3, rfl, rfl, by trivial, HFIN.out⟩
                        case measure =>
                          have e1 := HFIN.out.left
                          have e2 := HLF6.out.trans HC3.out.left
                          have e3 := nLeft_gadd (HRING.out.rot (by rw [HCL.out]; exact HJL.out))
                          have e4 := Nat.mul_le_mul_right (is.length + 1) e3
                          rw [Nat.add_mul, Nat.one_mul] at e4
                          rw [e1, e2]
                          simp only [lenOf]
                          omega
end Go.Proofs.Ytpikmcapnmdmbaa
