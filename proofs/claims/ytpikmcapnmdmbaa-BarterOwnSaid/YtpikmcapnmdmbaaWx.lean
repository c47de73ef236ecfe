/-
  Layer 22: what was lent is as it was; both Clears alike; one number of what was lent set anew.
-/
import Derived.Test.YtpikmcapnmdmbaaWv
namespace Go.Proofs.Ytpikmcapnmdmbaa
open Go.RowKit Go.K Go.Maps
set_option linter.unusedVariables false
set_option linter.unusedSimpArgs false
set_option maxRecDepth 100000 in
set_option maxHeartbeats 2000000 in
theorem keptAll_true (B : Nat) (a b : Option Addr) (c d : Nat) (ms ns : List Wl) (w : World) (hl : ms.length ≤ 1000000) (hm : LentW B w a c ms) (hn : WsOk w b ns) (he : ms.map Wl.l = ns.map Wl.l) :
    Calls Try.prog 24 #[.slice a ms.length c, .slice b ns.length d] w fun e w' => e = .returned (.bool true) ∧ ∃ m, w' = w.drewN m := by
  have hlen : ns.length = ms.length := by have := congrArg List.length he; simpa using this.symm
  rw [hlen]
  obtain ⟨ga, hga, _, _, hca⟩ := hm.at'
  subst hga
  obtain ⟨gm, hro, hmk⟩ := hm.row
  have HM := Lib.hid hm
  have HN := Lib.hid hn
  have HE := Lib.hid he
  have HL := Lib.hid hlen
  have HRO := Lib.hid hro
  have HMK := Lib.hid hmk
  have hb0 : ((ms.length : Int) != (ms.length : Int)) = false := by simp
  have hr : ∀ W, (Instr.slice 23 (.slice (some ⟨ga, 0, none⟩) ms.length c) none (some (.int .i64 ((ms.length : Int) + 1))) none).run Try.prog W = .ok (.slice (some ⟨ga, 0, none⟩) (ms.length + 1) c) W := fun W =>
    run_slice_hi (P := Try.prog) Try.underlying23 sz22 (some ⟨ga, 0, none⟩) ⟨ga, 0, rfl⟩ ms.length c .i64 ((ms.length : Int) + 1) (ms.length + 1) (by omega) (by omega) W
  clear hm hn he hlen hro hmk
  go_enter Try.func24, Try.ntmps24
  go_wp2
  go_loopw [5, 6] (fun i x wr => ∃ k m : Nat, k ≤ ms.length ∧ i = .int .i64 k ∧ wr = w.drewN m) (fun i _ _ => ms.length - (intOf i).toNat)
  case atStart => exact ⟨0, 0, by omega, rfl, rfl⟩
  case round =>
    obtain ⟨k, m, hk, rfl, hwr⟩ := hrel
    have HWR := Lib.hid hwr
    have HMM := Lib.hid (show LentW B wr (some ⟨ga, 0, none⟩) c ms by rw [hwr]; exact HM.out.below ((Qt.drewN w m).below _))
    have HNN := Lib.hid (show WsOk wr b ns by rw [hwr]; exact HN.out.drewN m)
    clear hwr
    by_cases hlt : k < ms.length
    · have t0 : decide ((k : Int) < (ms.length : Int)) = true := by simp; omega
      have hlt2 : k < ns.length := by rw [HL.out]; exact hlt
      obtain ⟨b1, o1, hb1, x0⟩ := HMM.out.ok.at' k hlt
      obtain ⟨rfl, rfl⟩ : b1 = ga ∧ o1 = 0 := by injection hb1 with h1; injection h1 with h2 h3; exact ⟨h2.symm, h3.symm⟩
      clear hb1
      rw [Nat.zero_add] at x0
      obtain ⟨b2, o2, rfl, y0⟩ := HNN.out.at' k hlt2
      have i1 : (k : Int) < (ms.length : Int) := by omega
      have HX := Lib.hid (HMM.out.each _ (List.getElem_mem hlt))
      have HY := Lib.hid (HNN.out.each _ (List.getElem_mem hlt2))
      have HXY := Lib.hid (show ms[k].l = ns[k].l by
        have h1 : (ms.map Wl.l)[k]? = some ms[k].l := by rw [List.getElem?_map, List.getElem?_eq_getElem hlt]; rfl
        have h2 : (ns.map Wl.l)[k]? = some ns[k].l := by rw [List.getElem?_map, List.getElem?_eq_getElem hlt2]; rfl
        rw [HE.out, h2] at h1
        exact (Option.some.inj h1).symm)
      generalize ms[k] = x at x0 HX HXY
      generalize ns[k] = y at y0 HY HXY
      obtain ⟨xa, xc, xl⟩ := x
      obtain ⟨ya, yc, yl⟩ := y
      simp only at HXY x0 y0
      have e := HXY.out
      subst e
      have K23 := Lib.hid (fun n => (kept_true B xa ya xc yc xl (wr.drewN n) (HX.out.below ((Qt.drewN wr n).below _)) HY.out.sl).mono (fun _ _ h => And.intro h.1 (h.2.elim (fun q hq => (⟨n + q, hq.trans (drewN_add wr n q)⟩ : ∃ z, _ = wr.drewN z)))))
      clear hr
      go_wp2
      go_quiet ((go_at_call 23; exact K23.out _))
      go_wp2
      go_roundw
      case rel => exact ⟨k + 1, m + nq, by omega, by go_num, by rw [HWR.out, drewN_add]⟩
      case measure => simp [intOf]; omega
    · have t0 : decide ((k : Int) < (ms.length : Int)) = false := by simp; omega
      have z0 : wr.cell? ⟨ga, ms.length, none⟩ = some (.slice (some ⟨gm, 0, none⟩) 1 1) := by
        rw [HWR.out]
        exact owns_cell HRO.out ms.length (by rw [List.getElem?_append_right (by rw [wV_length]; exact Nat.le_refl _), wV_length, Nat.sub_self]; rfl)
      have z1 : wr.cell? ⟨gm, 0, none⟩ = some (.int .i64 (-778)) := by
        rw [HWR.out, (Qt.drewN w m).cell, cell_of_row _ _ _ _ _ _ HMK.out]; rfl
      have i0 : (ms.length : Int) < ((ms.length + 1 : Nat) : Int) := by omega
      go_wp2_with ((with_reducible refine at_slice_op ?_); refine wpList_slice_hi Try.underlying23 (.slice (some ⟨ga, 0, none⟩) ms.length c) (.int .i64 ((ms.length : Int) + 1)) _ ?_ ?_ hr ?_; exact rfl; exact rfl)
      go_ret
      exact ⟨rfl, m, HWR.out⟩
theorem tab_sl {W : World} {g n : Nat} {G : Nat → Int} (h : W.heap[g]? = some (.cells (tabI n G) 3 (0, 0))) : Sl W (some ⟨g, 0, none⟩) (vI ((List.range n).map G)) := fun _ => ⟨g, 0, rfl, fun i hi => by
  rw [vI_length, List.length_map, List.length_range] at hi
  rw [Nat.zero_add, tabI_cell h i hi, vI_get _ i (by simpa using hi)]
  simp⟩
theorem cycs_mx {n : Nat} {F : (Nat → Bool) → Nat → Nat} {cs : List (List Nat)} {D : Nat → Bool} (h : RunTo n F cs D) (hn : n ≤ 1000000) : ∀ c ∈ cs, c.length ≤ 1000000 ∧ ∀ i ∈ c, i < 1000001 := fun c hc => by
  have hf := h.facts c hc
  have := nodup_le n c hf.2.1 hf.2.2
  exact ⟨by omega, fun i hi => by have := hf.2.2 i hi; omega⟩
theorem got_same {is : List Int} {cs : List (List Nat)} {n : Nat} {F : (Nat → Bool) → Nat → Nat} {D : Nat → Bool} {G G' : Nat → Int} (h : RunTo n F cs D) (ha : ∀ i, i < n → D i = true) (hg : GotOk is cs G) (hg' : GotOk is cs G') : (List.range n).map G = (List.range n).map G' := by
  apply List.map_congr_left
  intro i hi
  obtain ⟨c, hc, hic⟩ := h.gone' i (ha i (List.mem_range.1 hi))
  obtain ⟨k, hk, rfl⟩ := mem_getD hic
  rw [hg c hc k hk, hg' c hc k hk]
/-- Two answers of Clear to the same lists are the same. -/
theorem clears_same {is : List Int} {ms ms' : List Wl} {u v u' v' : World} {s3 s4 s5 t3 t4 t5 : Value} (hn : is.length ≤ 1000000) (he : ms.map Wl.l = ms'.map Wl.l) (h : ClearAns is ms u (.returned (.tuple #[s3, s4, s5])) v) (h' : ClearAns is ms' u' (.returned (.tuple #[t3, t4, t5])) v') (hb : Below v.heap.size v v') :
    ∃ z : Int, s5 = .int .i64 z ∧ t5 = .int .i64 z ∧ ∀ W, Below v'.heap.size v' W → Calls Try.prog 21 #[s3, t3] W (fun e w' => e = .returned (.bool true) ∧ ∃ m, w' = W.drewN m) ∧ Calls Try.prog 22 #[s4, t4] W (fun e w' => e = .returned (.bool true) ∧ ∃ m, w' = W.drewN m) := by
  have hlen : ms'.length = ms.length := by have := congrArg List.length he; simpa using this.symm
  rcases h.1 with ⟨hr, hno⟩ | ⟨hm, cs, gs, D, g, G, vc, B, hr, hrun, hall, hgot, hrow, hg, hgB, hcy, hcr⟩ <;> rcases h'.1 with ⟨hr', hno'⟩ | ⟨hm', cs', gs', D', g', G', vc', B', hr', hrun', hall', hgot', hrow', hg', hgB', hcy', hcr'⟩
  · simp only [Ending.returned.injEq, Value.tuple.injEq, Array.mk.injEq, List.cons.injEq] at hr hr'
    obtain ⟨rfl, rfl, rfl, _⟩ := hr
    obtain ⟨rfl, rfl, rfl, _⟩ := hr'
    refine ⟨220, rfl, rfl, fun W hb => ⟨same_true none none 0 0 [] W (by decide) (fun h => absurd rfl h) (fun h => absurd rfl h), sameAll_true none none 0 0 [] [] W (by decide) ⟨fun h => absurd rfl h, fun x hx => by cases hx⟩ ⟨fun h => absurd rfl h, fun x hx => by cases hx⟩ rfl⟩⟩
  · rw [hlen] at hm'; exact absurd hm' hno
  · rw [hlen] at hno'; exact absurd hm hno'
  · simp only [Ending.returned.injEq, Value.tuple.injEq, Array.mk.injEq, List.cons.injEq] at hr hr'
    obtain ⟨rfl, rfl, rfl, _⟩ := hr
    obtain ⟨rfl, rfl, rfl, _⟩ := hr'
    rw [← he] at hrun'
    have e := run_unique hrun hrun' hall hall'
    subst e
    have eg := got_same hrun hall hgot hgot'
    refine ⟨0, rfl, rfl, fun W hbW => ⟨?_, ?_⟩⟩
    · have hbv : Below v.heap.size v W := hb.trans (hbW.mono hb.size)
      have a1 := tab_sl (row_kept hrow hbv)
      have a2 := tab_sl (row_kept hrow' hbW)
      rw [← eg] at a2
      have := same_true (some ⟨g, 0, none⟩) (some ⟨g', 0, none⟩) is.length is.length ((List.range is.length).map G) W (by rw [List.length_map, List.length_range]; omega) a1 a2
      rw [List.length_map, List.length_range] at this
      exact this
    · have hbv : Below v.heap.size v W := hb.trans (hbW.mono hb.size)
      obtain ⟨ad, cap, rfl, _, _, _, _⟩ := owns_len hcy
      obtain ⟨ad', cap', rfl, _, _, _, _⟩ := owns_len hcy'
      have hmx := cycs_mx hrun hn
      have b1 := (cycs_ok hcy hcr hmx).kept hbv
      have b2 := (cycs_ok hcy' hcr' hmx).kept hbW
      have l1 : (cyW cs gs).length = cs.length := by have := congrArg List.length (cyW_l hcr.len); simpa using this
      have l2 : (cyW cs gs').length = cs.length := by have := congrArg List.length (cyW_l hcr'.len); simpa using this
      have hcl : cs.length ≤ is.length := by have := hrun.short; omega
      have := sameAll_true ad ad' cap cap' (cyW cs gs) (cyW cs gs') W (by rw [l1]; omega) b1 b2 ((cyW_l hcr.len).trans (cyW_l hcr'.len).symm)
      rw [l1, l2] at this
      exact this
theorem take_set_mid {α : Type} (cur : List α) (i m : Nat) (x : α) (hi : i < m) (hm : m ≤ cur.length) : (cur.take i ++ [x] ++ cur.drop (i + 1)).take m = (cur.take m).set i x := by
  apply List.ext_getElem?
  intro q
  rw [List.getElem?_set, List.getElem?_take, List.getElem?_take]
  by_cases hq : q < m
  · rw [if_pos hq, if_pos hq, List.length_take, Nat.min_eq_left hm]
    by_cases e : i = q
    · subst e
      rw [if_pos rfl, if_pos hi, List.append_assoc, List.getElem?_append_right (by simp; omega)]
      simp [show min i cur.length = i by omega]
    · rw [if_neg e]
      by_cases hlt : q < i
      · rw [List.append_assoc, List.getElem?_append_left (by simp; omega), List.getElem?_take, if_pos hlt]
      · rw [List.getElem?_append_right (by simp; omega), List.getElem?_drop]
        congr 1
        simp; omega
  · rw [if_neg hq, if_neg hq]
    by_cases e : i = q
    · omega
    · rw [if_neg e]
theorem vI_set (l : List Int) (i : Nat) (x : Int) : (vI l).set i (.int .i64 x) = vI (l.set i x) := by simp [vI, List.map_set]
/-- One number of a list that was lent is set anew. -/
theorem LentL.set {B : Nat} {W : World} {x : Wl} (h : LentL B W x) (i : Nat) (hi : i < x.l.length) (v : Int) (hv : (Lit.int .i64 v).wf = true) :
    ∃ g cur nc, x.a = some ⟨g, 0, none⟩ ∧ W.heap[g]? = some (.cells cur 3 (0, 0)) ∧ i + 1 ≤ cur.size ∧ 40 ≤ cur.size ∧ (cur.toList.take i ++ [Value.int .i64 v] ++ cur.toList.drop (i + 1)).toArray = nc ∧
      ∀ W', Put W g (.cells nc 3 (0, 0)) W' → LentL B W' ⟨x.a, x.c, x.l.set i v⟩ := by
  obtain ⟨g, cap, cur, hva, hB, hrow, hle, hcm, hsz, htk⟩ := owns_cases h.row (by omega)
  injection hva with e1 e2 e3
  simp only [Nat.mul_one] at htk hsz
  have hcl : cur.toList.length = cur.size := by simp
  refine ⟨g, cur, _, e1, hrow, by omega, by omega, rfl, fun W' hp => ⟨?_, by rw [List.length_set]; exact h.mx, fun y hy => ?_⟩⟩
  · simp only [List.length_set]
    refine ⟨?_, .inr ⟨g, cap, _, by rw [e1, e3], hB, hp.at', hle, hcm, ?_, ?_⟩⟩
    · have := h.row.1
      rw [vI_length] at this ⊢
      rw [List.length_append, List.length_set]
      rw [List.length_append] at this
      exact this
    · simp; omega
    · rw [Nat.mul_one]
      show (cur.toList.take i ++ [Value.int .i64 v] ++ cur.toList.drop (i + 1)).take (x.l.length + 40) = _
      rw [take_set_mid cur.toList i (x.l.length + 40) _ (by omega) (by omega), htk, vI_set, List.set_append_left _ _ hi]
  · rcases List.mem_or_eq_of_mem_set hy with e | e
    · exact h.wf y e
    · rw [e]; exact hv
/-- One number of one of the lists that were lent is set anew. -/
theorem LentW.setAt {B : Nat} {W : World} {a : Option Addr} {c : Nat} {ms : List Wl} (h : LentW B W a c ms) (i : Nat) (hi : i < ms.length) (k : Nat) (hk : k < ms[i].l.length) (v : Int) (hv : (Lit.int .i64 v).wf = true) :
    ∃ g cur nc, ms[i].a = some ⟨g, 0, none⟩ ∧ B ≤ g ∧ W.heap[g]? = some (.cells cur 3 (0, 0)) ∧ k + 1 ≤ cur.size ∧ (cur.toList.take k ++ [Value.int .i64 v] ++ cur.toList.drop (k + 1)).toArray = nc ∧
      ∀ W', Put W g (.cells nc 3 (0, 0)) W' → LentW B W' a c (ms.set i ⟨ms[i].a, ms[i].c, ms[i].l.set k v⟩) := by
  obtain ⟨g, cur, nc, hga, hrow, hks, h40, hnc, hset⟩ := (h.each _ (List.getElem_mem hi)).set k hk v hv
  obtain ⟨g', hga', hB, _⟩ := (h.each _ (List.getElem_mem hi)).at'
  obtain rfl : g' = g := by rw [hga] at hga'; injection hga' with h1; injection h1 with h1; exact h1.symm
  obtain ⟨gm, hro, hmk⟩ := h.row
  refine ⟨g', cur, nc, hga, hB, hrow, hks, hnc, fun W' hp => ⟨⟨gm, ?_, ?_⟩, ?_, ?_⟩⟩
  · rw [List.length_set]
    have e : wV (ms.set i ⟨ms[i].a, ms[i].c, ms[i].l.set k v⟩) = wV ms := by
      unfold wV
      rw [List.map_set]
      have : Wl.v ⟨ms[i].a, ms[i].c, ms[i].l.set k v⟩ = Wl.v ms[i] := by unfold Wl.v; simp
      rw [this, show Wl.v ms[i] = (ms.map Wl.v)[i]'(by simpa using hi) by simp, List.set_getElem_self]
    rw [e]
    refine hro.kept hp.grown ?_
    rcases hro.2 with ⟨e2, _⟩ | ⟨g1, cap1, cur1, e2, _, hr1, _⟩
    · rw [e2]; exact .inl rfl
    · rw [e2]
      refine .inr (fun e3 => ?_)
      injection e3 with e4
      exact rows_ne hr1 hrow (by decide) e4
  · refine hp.row hmk (fun e => ?_)
    subst e
    rw [hmk] at hrow
    injection hrow with e1
    injection e1 with e1 _
    subst e1
    simp at h40
  · intro x hx
    obtain ⟨j, hj, rfl⟩ := List.mem_iff_getElem.1 hx
    rw [List.length_set] at hj
    by_cases e : i = j
    · subst e
      rw [List.getElem_set_self]
      exact hset W' hp
    · rw [List.getElem_set_ne e]
      have hx := h.each _ (List.getElem_mem hj)
      obtain ⟨gj, hgj, _⟩ := hx.at'
      refine ⟨hx.row.kept hp.grown (.inr (fun e3 => ?_)), hx.mx, hx.wf⟩
      rw [hgj] at e3
      have e3' : gj = g' := by injection e3
      subst e3'
      rcases Nat.lt_or_gt_of_ne e with hlt | hlt
      · have := (List.pairwise_iff_getElem.1 h.inc) i j hi hj hlt gj gj hga hgj
        omega
      · have := (List.pairwise_iff_getElem.1 h.inc) j i hj hi hlt gj gj hgj hga
        omega
  · unfold IncW
    refine List.pairwise_iff_getElem.2 (fun p q hp hq hpq => ?_)
    rw [List.length_set] at hp hq
    have hsame : ∀ r (hr : r < ms.length), ((ms.set i ⟨ms[i].a, ms[i].c, ms[i].l.set k v⟩)[r]'(by rw [List.length_set]; exact hr)).a = ms[r].a := fun r hr => by
      by_cases e : i = r
      · subst e; rw [List.getElem_set_self]
      · rw [List.getElem_set_ne e]
    rw [hsame p hp, hsame q hq]
    exact (List.pairwise_iff_getElem.1 h.inc) p q hp hq hpq
theorem LentW.past {B : Nat} {W W' : World} {a : Option Addr} {c : Nat} {ms : List Wl} (h : LentW B W a c ms) {g : Nat} {o : Obj} {cur : Array Value} {fr : Nat × Nat} (hp : Put W g o W') (hg : g < B) (hrow : W.heap[g]? = some (.cells cur 3 fr)) (h40 : 40 ≤ cur.size) : LentW B W' a c ms := by
  obtain ⟨gm, hro, hmk⟩ := h.row
  have hne : ∀ k, B ≤ k → (some k : Option Nat) ≠ some g := fun k hk e => by injection e with e; omega
  refine ⟨⟨gm, ?_, hp.row hmk (fun e => ?_)⟩, fun x hx => ?_, h.inc⟩
  · refine hro.kept hp.grown ?_
    cases hv : (Value.slice a (ms.length + 1) c).ownBlock with
    | none => exact .inl rfl
    | some k => exact .inr (hne k (hro.lt k hv).1)
  · subst e
    rw [hmk] at hrow
    injection hrow with e1
    injection e1 with e1 _
    subst e1
    simp at h40
  · have hx := h.each x hx
    refine ⟨hx.row.kept hp.grown ?_, hx.mx, hx.wf⟩
    cases hv : (Value.slice x.a (x.l.length + 40) x.c).ownBlock with
    | none => exact .inl rfl
    | some k => exact .inr (hne k (hx.row.lt k hv).1)
theorem LentL.past {B : Nat} {W W' : World} {a : Nat} {c : Nat} {l : List Int} (h : LentL B W ⟨some ⟨a, 0, none⟩, c, l⟩) {g : Nat} {o : Obj} (hp : Put W g o W') (hg : a ≠ g) : LentL B W' ⟨some ⟨a, 0, none⟩, c, l⟩ :=
  ⟨h.row.kept hp.grown (.inr (fun e => hg (by injection e))), h.mx, h.wf⟩
theorem tmod9 (v : Int) : -8 ≤ Int.tmod v 9 ∧ Int.tmod v 9 ≤ 8 := by
  cases v with
  | ofNat n =>
    have : Int.tmod (Int.ofNat n) 9 = ((n % 9 : Nat) : Int) := rfl
    rw [this]; omega
  | negSucc n =>
    have : Int.tmod (Int.negSucc n) 9 = -(((n + 1) % 9 : Nat) : Int) := rfl
    rw [this]; omega
theorem rclear_ans {ia : Option Addr} {ic : Nat} {is : List Int} {wa : Option Addr} {wc m : Nat} {ws : List Wl} {w : World} (hl1 : is.length ≤ 900000) (hs : Sl w ia (vI is)) (hw : Wf is) (hws : WsOk w wa ws) (hm : ws.length = m) :
    Calls Try.prog 19 #[.slice ia is.length ic, .slice wa m wc] w fun r w' => ∃ s3 s4 s5, r = .returned (.tuple #[s3, s4, s5]) ∧ ClearAns is ws w (.returned (.tuple #[s3, s4, s5])) w' := by
  subst hm
  refine (rclear_any ia ic is wa wc ws w hl1 hs hw hws).mono ?_
  rintro r w' ⟨h | ⟨hm, cs, gs, D, g, G, vc, B, rfl, h⟩, hb⟩
  · obtain ⟨rfl, hn⟩ := h
    exact ⟨_, _, _, rfl, .inl ⟨rfl, hn⟩, hb⟩
  · exact ⟨_, _, _, rfl, .inr ⟨hm, cs, gs, D, g, G, vc, B, rfl, h⟩, hb⟩
end Go.Proofs.Ytpikmcapnmdmbaa
