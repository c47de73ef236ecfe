/-
  Layer 22: at whom an entry points.
-/
import Derived.Test.YtpikmcapnmdmbaaWa
namespace Go.Proofs.Ytpikmcapnmdmbaa
open Go.RowKit Go.K Go.Maps
set_option linter.unusedVariables false
set_option linter.unusedSimpArgs false

def tabI (n : Nat) (f : Nat → Int) : Array Value := ((List.range n).map fun i => Value.int .i64 (f i)).toArray
def tabB (n : Nat) (f : Nat → Bool) : Array Value := ((List.range n).map fun i => Value.bool (f i)).toArray
def upd {α : Type} (f : Nat → α) (j : Nat) (v : α) : Nat → α := fun i => if i = j then v else f i
theorem upd_same {α : Type} (f : Nat → α) (j : Nat) (v : α) : upd f j v j = v := if_pos rfl
theorem upd_other {α : Type} (f : Nat → α) {i j : Nat} (v : α) (h : i ≠ j) : upd f j v i = f i := if_neg h
theorem tabI_size (n : Nat) (f : Nat → Int) : (tabI n f).size = n := by simp [tabI]
theorem tabB_size (n : Nat) (f : Nat → Bool) : (tabB n f).size = n := by simp [tabB]
theorem tabI_cell {W : World} {g n : Nat} {f : Nat → Int} {t : TypeId} (h : W.heap[g]? = some (.cells (tabI n f) t (0, 0))) (i : Nat) (hi : i < n) : W.cell? ⟨g, i, none⟩ = some (.int .i64 (f i)) := by
  rw [cell_of_row _ _ _ _ _ _ h]; simp [tabI, hi]
theorem tabB_cell {W : World} {g n : Nat} {f : Nat → Bool} {t : TypeId} (h : W.heap[g]? = some (.cells (tabB n f) t (0, 0))) (i : Nat) (hi : i < n) : W.cell? ⟨g, i, none⟩ = some (.bool (f i)) := by
  rw [cell_of_row _ _ _ _ _ _ h]; simp [tabB, hi]
theorem tab_set {α : Type} (mk : α → Value) (n : Nat) (f : Nat → α) (j : Nat) (hj : j < n) (v : α) : (((List.range n).map fun i => mk (f i)).take j ++ [mk v] ++ ((List.range n).map fun i => mk (f i)).drop (j + 1)) = (List.range n).map fun i => mk (upd f j v i) := by
  apply List.ext_getElem?
  intro i
  by_cases h1 : i < j
  · rw [List.append_assoc, List.getElem?_append_left (by simp; omega), List.getElem?_take, if_pos h1]
    have : i < n := by omega
    simp [List.getElem?_map, List.getElem?_range this, upd, show i ≠ j by omega]
  · by_cases h2 : i = j
    · subst h2
      rw [List.append_assoc, List.getElem?_append_right (by simp; omega), List.getElem?_append_left (by simp; omega)]
      simp [List.getElem?_map, hj, upd, show i - min i n = 0 by omega]
    · rw [List.getElem?_append_right (by simp; omega), List.getElem?_drop]
      by_cases h3 : i < n
      · have : j + 1 + (i - (List.take j (List.map (fun i => mk (f i)) (List.range n)) ++ [mk v]).length) = i := by simp; omega
        rw [this]
        simp [List.getElem?_map, List.getElem?_range h3, upd, h2]
      · rw [List.getElem?_eq_none (by simp; omega), List.getElem?_eq_none (by simp; omega)]
theorem tabI_set (n : Nat) (f : Nat → Int) (j : Nat) (hj : j < n) (v : Int) : ((tabI n f).toList.take j ++ (Value.int .i64 v).cells.toList ++ (tabI n f).toList.drop (j + (Value.int .i64 v).cells.size)).toArray = tabI n (upd f j v) := by
  have := tab_set (Value.int .i64) n f j hj v
  show (_ : List Value).toArray = _
  rw [show (Value.int .i64 v).cells.toList = [Value.int .i64 v] from rfl, show (Value.int .i64 v).cells.size = 1 from rfl]
  unfold tabI
  rw [List.toList_toArray, this]
theorem tabB_set (n : Nat) (f : Nat → Bool) (j : Nat) (hj : j < n) (v : Bool) : ((tabB n f).toList.take j ++ (Value.bool v).cells.toList ++ (tabB n f).toList.drop (j + (Value.bool v).cells.size)).toArray = tabB n (upd f j v) := by
  have := tab_set Value.bool n f j hj v
  rw [show (Value.bool v).cells.toList = [Value.bool v] from rfl, show (Value.bool v).cells.size = 1 from rfl]
  unfold tabB
  rw [List.toList_toArray, this]
/-- The place of an item among those that are left. -/
def liveAt (is : List Int) (D : Nat → Bool) (x : Int) : Option Nat :=
  match is.findIdx? (· == x) with
  | some k => if D k then none else some k
  | none => none
theorem live_none {is : List Int} {D : Nat → Bool} {x : Int} (h : x ∉ is) : liveAt is D x = none := by
  unfold liveAt
  rw [List.findIdx?_eq_none_iff.2 (fun y hy => by simp; intro e; exact h (e ▸ hy))]
theorem find_at {is : List Int} (hn : is.Nodup) (j : Nat) (hj : j < is.length) : is.findIdx? (· == is[j]) = some j := by
  rw [List.findIdx?_eq_some_iff_getElem]
  refine ⟨hj, by simp, fun i hi => ?_⟩
  have h1 := (List.pairwise_iff_getElem.1 hn) i j (by omega) hj hi
  have h2 : (is[i] == is[j]) = false := beq_eq_false_iff_ne.2 h1
  rw [h2]; decide
theorem live_at {is : List Int} {D : Nat → Bool} (hn : is.Nodup) (j : Nat) (hj : j < is.length) : liveAt is D is[j] = if D j then none else some j := by
  unfold liveAt
  rw [find_at hn j hj]
/-- At whom entry i points: the first of its wishes that is left; none: at itself. -/
def pts (is : List Int) (ws : List (List Int)) (D : Nat → Bool) (i : Nat) : Nat := ((ws.getD i []).findSome? (liveAt is D)).getD i
theorem pts_hit {is : List Int} {ws : List (List Int)} {D : Nat → Bool} {i p j : Nat} {l : List Int} (hl : ws.getD i [] = l) (hp : p < l.length) (hd : ∀ q (h : q < l.length), q < p → liveAt is D l[q] = none) (hj : liveAt is D l[p] = some j) : pts is ws D i = j := by
  unfold pts
  rw [hl]
  have e : l = l.take p ++ l[p] :: l.drop (p + 1) := by rw [← List.drop_eq_getElem_cons hp, List.take_append_drop]
  have e2 : l.findSome? (liveAt is D) = some j := by
    rw [e, List.findSome?_append, List.findSome?_eq_none_iff.2 (fun x hx => by
      obtain ⟨q, hq, rfl⟩ := List.mem_take_iff_getElem.1 hx
      exact hd q (by omega) (by omega)), List.findSome?_cons, hj]
    rfl
  rw [e2]; rfl
theorem pts_none {is : List Int} {ws : List (List Int)} {D : Nat → Bool} {i : Nat} {l : List Int} (hl : ws.getD i [] = l) (hd : ∀ q (h : q < l.length), liveAt is D l[q] = none) : pts is ws D i = i := by
  unfold pts
  rw [hl, List.findSome?_eq_none_iff.2 (fun x hx => by
    obtain ⟨q, hq, rfl⟩ := List.mem_iff_getElem.1 hx
    exact hd q hq)]
  rfl
/-- What Clear keeps of a meet: memory handed in lies in W0, all else is new. -/
structure Meet (W0 W : World) (gm gb go gp : Nat) (ia : Option Addr) (ic : Nat) (is : List Int) (wa : Option Addr) (wc : Nat) (ws : List Wl) (D : Nat → Bool) (P : Nat → Nat) : Prop where
  base : Below W0.heap.size W0 W
  items : Sl W0 ia (vI is)
  wishes : WsOk W0 wa ws
  ge : W0.heap.size ≤ gm ∧ W0.heap.size ≤ gb ∧ W0.heap.size ≤ go ∧ W0.heap.size ≤ gp
  row : W.heap[gm]? = some (.cells #[.slice ia is.length ic, .slice wa is.length wc, .map (some gb), .slice (some ⟨go, 0, none⟩) is.length is.length, .slice (some ⟨gp, 0, none⟩) is.length is.length] 71 (0, 0))
  by' : MapR W gb is.length is
  gone : W.heap[go]? = some (.cells (tabB is.length D) 4 (0, 0))
  passed : W.heap[gp]? = some (.cells (tabI is.length (fun i => (P i : Int))) 3 (0, 0))
  wf : Wf is
  len : ws.length = is.length
  nd : is.Nodup
theorem mapR_ne {W : World} {b k g : Nat} {is : List Int} {cs : Array Value} {t : TypeId} {fr : Nat × Nat} (h : MapR W b k is) (hr : W.heap[g]? = some (.cells cs t fr)) : b ≠ g := by
  obtain ⟨D, ⟨es, ck, hb, _⟩, _⟩ := h
  intro e
  subst e
  rw [hr] at hb
  cases hb
theorem MapR.grown {W W' : World} {b k : Nat} {is : List Int} {row : Option Nat} (h : MapR W b k is) (hg : W.grownBy W' row) (hne : some b ≠ row) : MapR W' b k is := by
  obtain ⟨D, h1, h2⟩ := h
  exact ⟨D, h1.kept hg hne, h2⟩
theorem Meet.drewN {W0 W : World} {gm gb go gp : Nat} {ia : Option Addr} {ic : Nat} {is : List Int} {wa : Option Addr} {wc : Nat} {ws : List Wl} {D : Nat → Bool} {P : Nat → Nat} (h : Meet W0 W gm gb go gp ia ic is wa wc ws D P) (n : Nat) :
    Meet W0 (W.drewN n) gm gb go gp ia ic is wa wc ws D P := ⟨h.base.trans ((Qt.drewN W n).below _), h.items, h.wishes, h.ge, h.row, h.by', h.gone, h.passed, h.wf, h.len, h.nd⟩
/-- A new count of passed wishes. -/
theorem Meet.pass {W0 W W' : World} {gm gb go gp : Nat} {ia : Option Addr} {ic : Nat} {is : List Int} {wa : Option Addr} {wc : Nat} {ws : List Wl} {D : Nat → Bool} {P P' : Nat → Nat} (h : Meet W0 W gm gb go gp ia ic is wa wc ws D P)
    (hp : Put W gp (.cells (tabI is.length (fun i => (P' i : Int))) 3 (0, 0)) W') : Meet W0 W' gm gb go gp ia ic is wa wc ws D P' :=
  ⟨hp.below h.base h.base.size h.ge.2.2.2, h.items, h.wishes, h.ge, hp.row h.row (rows_ne h.row h.passed (by decide)), h.by'.grown hp.grown (fun e => mapR_ne h.by' h.passed (by injection e)), hp.row h.gone (rows_ne h.gone h.passed (by decide)), hp.at', h.wf, h.len, h.nd⟩
structure PassOk (is : List Int) (ws : List Wl) (D : Nat → Bool) (P : Nat → Nat) : Prop where
  le : ∀ i (h : i < ws.length), P i ≤ ws[i].l.length
  dead : ∀ i (h : i < ws.length), ∀ q (hq : q < ws[i].l.length), q < P i → liveAt is D ws[i].l[q] = none
def cellNat (W : World) (g i : Nat) : Nat := match W.cell? ⟨g, i, none⟩ with | some (.int _ z) => z.toNat | _ => 0
theorem upd_nat (P : Nat → Nat) (i v : Nat) : upd (fun i => (P i : Int)) i (v : Int) = fun j => ((upd P i v j : Nat) : Int) := by
  funext j
  by_cases h : j = i
  · subst h; simp [upd]
  · simp [upd, h]
set_option maxRecDepth 100000 in
set_option maxHeartbeats 2000000 in
theorem points_any {W0 : World} {gm gb go gp : Nat} {ia : Option Addr} {ic : Nat} {is : List Int} {wa : Option Addr} {wc : Nat} {ws : List Wl} {D : Nat → Bool} {P : Nat → Nat} (i : Nat) (hi : i < is.length) (w : World)
    (hl : is.length ≤ 17592186043904) (hM : Meet W0 w gm gb go gp ia ic is wa wc ws D P) (hP : PassOk is ws D P) :
    Calls Try.prog 46 #[.pointer (some ⟨gm, 0, none⟩), .int .i64 i] w fun r w' => r = .returned (.int .i64 (pts is (ws.map Wl.l) D i)) ∧ Only (· = gp) w w' ∧ ∃ P', Meet W0 w' gm gb go gp ia ic is wa wc ws D P' ∧ PassOk is ws D P' := by
  have HM := Lib.hid hM
  have HP := Lib.hid hP
  clear hM hP
  have hiw : i < ws.length := by rw [HM.out.len]; exact hi
  have HIW := Lib.hid hiw
  clear hiw
  have i0 : (i : Int) < (is.length : Int) := by omega
  have HX := Lib.hid (show WlOk W0 ws[i] from HM.out.wishes.each _ (List.getElem_mem HIW.out))
  have HG := Lib.hid (show (ws.map Wl.l).getD i [] = ws[i].l from by rw [List.getD_eq_getElem?_getD, List.getElem?_map, List.getElem?_eq_getElem HIW.out]; rfl)
  have HZ := Lib.hid (fun (wr : World) (hb : Below W0.heap.size W0 wr) => (HM.out.wishes.kept hb).at' i HIW.out)
  have HPI := Lib.hid (HP.out.le i HIW.out)
  have HPD := Lib.hid (HP.out.dead i HIW.out)
  have HPU := Lib.hid (show ∀ p, p ≤ ws[i].l.length → (∀ q (hq : q < ws[i].l.length), q < p → liveAt is D ws[i].l[q] = none) → ∀ P', (∀ j, j ≠ i → P' j = P j) → P' i = p → PassOk is ws D P' from fun p hp hd P' h1 h2 => ⟨fun j hj => by
      by_cases e : j = i
      · subst e; rw [h2]; exact hp
      · rw [h1 j e]; exact HP.out.le j hj, fun j hj q hq hqp => by
      by_cases e : j = i
      · subst e; rw [h2] at hqp; exact hd q hq hqp
      · rw [h1 j e] at hqp; exact HP.out.dead j hj q hq hqp⟩)
  generalize ws[i] = xx at HX HG HZ HPI HPD HPU
  obtain ⟨xa, xc, xl⟩ := xx
  simp only at HG HZ HPI HPD HPU
  have hmx : xl.length ≤ 17592186043904 := HX.out.mx
  go_enter Try.func46, Try.ntmps46
  go_wp2
  go_loopw [5, 6, 7] (fun x5 x6 x7 wr => ∃ (p : Nat) (P' : Nat → Nat), p ≤ xl.length ∧ P' i = p ∧ (∀ j, j ≠ i → P' j = P j) ∧ Meet W0 wr gm gb go gp ia ic is wa wc ws D P' ∧ Only (· = gp) w wr ∧ ∀ q (hq : q < xl.length), q < p → liveAt is D xl[q] = none)
    (fun _ _ _ wr => xl.length - cellNat wr gp i)
  case atStart => exact ⟨P i, P, HPI.out, rfl, fun _ _ => rfl, HM.out, Only.refl _ _, HPD.out⟩
  case round =>
    clear HM HPI HPD
    obtain ⟨p, P', hp, hpi, hpo, hm, ho, hd⟩ := hrel
    have HM := Lib.hid hm
    have HO := Lib.hid ho
    have HD := Lib.hid hd
    have HPP := Lib.hid hpi
    have HPO := Lib.hid hpo
    clear hm ho hd hpi hpo
    obtain ⟨c0, c1, c2, c3, c4⟩ := cells5 HM.out.row
    obtain ⟨wb, wo, rfl, z1⟩ := HZ.out wr HM.out.base
    have z2 : wr.cell? ⟨gp, i, none⟩ = some (.int .i64 (p : Int)) := by rw [tabI_cell HM.out.passed i hi, HPP.out]
    have HC := Lib.hid (show cellNat wr gp i = p by unfold cellNat; rw [z2]; simp)
    by_cases hlt : p < xl.length
    · have t0 : decide ((p : Int) < (xl.length : Int)) = true := by simp; omega
      have i1 : (p : Int) < (xl.length : Int) := by omega
      obtain ⟨xb, xo, rfl, z3⟩ := int_at (HX.out.sl.below HM.out.base HX.out.sl.lt) p hlt
      have HWX := Lib.hid (HX.out.wf xl[p] (List.getElem_mem hlt))
      have HH := Lib.hid (fun jj => pts_hit (D := D) (j := jj) HG.out hlt HD.out)
      have HDN := Lib.hid (show liveAt is D xl[p] = none → ∀ q (hq : q < xl.length), q < p + 1 → liveAt is D xl[q] = none from fun h q hq hqp => by
        by_cases e : q = p
        · subst e; exact h
        · exact HD.out q hq (by omega))
      generalize xl[p] = x at z3 HWX HH HDN
      have hkey := keyOf_int_mk Try.underlying3 HWX.out
      obtain ⟨Dm, ho, hDm⟩ := HM.out.by'
      have HOM := Lib.hid ho
      have HDM := Lib.hid hDm
      clear ho hDm
      by_cases hin : x ∈ is
      · have h1 : Maps.has Dm (.int .i64 x) = true := by rw [HDM.out.has, List.take_length]; simpa using hin
        obtain ⟨j, hj, hjx⟩ := List.mem_iff_getElem.1 hin
        have HAT := Lib.hid (HDM.out.at' j hj hj)
        have HLV := Lib.hid (live_at (D := D) HM.out.nd j hj)
        rw [hjx] at HAT HLV
        have z4 : wr.cell? ⟨go, j, none⟩ = some (.bool (D j)) := tabB_cell HM.out.gone j hj
        have j0 : (j : Int) < (is.length : Int) := by omega
        clear hjx hin
        by_cases hg : D j = true
        · have HLN := Lib.hid (HLV.out.trans (if_pos hg))
          rw [hg] at z4
          clear hg HLV
          go_wp2
          go_quiet (fail)
          go_wp2
          go_quiet (fail)
          go_wp2_with (first
            | (at_lookup; refine wpList_lookup_own_ok_int _ rfl _ _ 66 rfl 3 3 .i64 law3 Try.underlying66 Try.underlying3 (zero3 _) gb is.length _ rfl HOM.out _ _ rfl hkey ?_; intro c hat hwc; have hcj : (j : Int) = c := (by have h := HAT.out.symm.trans hat; injection h with h; injection h); subst hcj)
            | ((with_reducible refine at_store_op ?_); refine wpList_store_lit 3 gp i (tabI is.length (fun j => ((upd P' i (p + 1) j : Nat) : Int))) (.int .i64 ((p : Int) + 1)) HM.out.passed sz3 (by rw [tabI_size]; exact hi) rfl (by rw [← upd_nat]; exact tabI_set _ _ _ hi _) ?_ ?_ ?_; exact rfl; exact rfl; intro w3 hp3)
            | fail)
          go_roundw
          case rel => exact ⟨p + 1, upd P' i (p + 1), by omega, upd_same _ _ _, fun j h => (upd_other _ _ h).trans (HPO.out j h), (HM.out.drewN _).pass hp3, (HO.out.trans (Only.of_below ((Qt.drewN wr _).below _)) (fun _ h => .inl h)).trans hp3.only (fun n h => .inl h), HDN.out HLN.out⟩
          case measure =>
            have e3 : cellNat w3 gp i = p + 1 := by
              unfold cellNat; rw [tabI_cell hp3.at' i hi, upd_same]; rfl
            rw [HC.out, e3]; omega
        · have HLN := Lib.hid (HLV.out.trans (if_neg hg))
          have hg' : D j = false := by simpa using hg
          rw [hg'] at z4
          clear hg hg' HLV
          go_wp2
          go_quiet (fail)
          go_wp2
          go_quiet (fail)
          go_wp2_with (first
            | (at_lookup; refine wpList_lookup_own_ok_int _ rfl _ _ 66 rfl 3 3 .i64 law3 Try.underlying66 Try.underlying3 (zero3 _) gb is.length _ rfl HOM.out _ _ rfl hkey ?_; intro c hat hwc; have hcj : (j : Int) = c := (by have h := HAT.out.symm.trans hat; injection h with h; injection h); subst hcj)
            | fail)
          go_ret
          exact ⟨by rw [HH.out j HLN.out]; rfl, HO.out.trans (Only.of_below ((Qt.drewN wr _).below _)) (fun _ h => .inl h), P', HM.out.drewN _, HPU.out p hp HD.out P' HPO.out HPP.out⟩
      · have h1 : Maps.has Dm (.int .i64 x) = false := by rw [HDM.out.has, List.take_length]; simpa using hin
        have HLN := Lib.hid (live_none (D := D) hin)
        clear hin
        go_wp2
        go_quiet (fail)
        go_wp2
        go_quiet (fail)
        go_wp2_with (first
          | (at_lookup; refine wpList_lookup_own_ok_int _ rfl _ _ 66 rfl 3 3 .i64 law3 Try.underlying66 Try.underlying3 (zero3 _) gb is.length _ rfl HOM.out _ _ rfl hkey ?_; intro c hat hwc)
          | ((with_reducible refine at_store_op ?_); refine wpList_store_lit 3 gp i (tabI is.length (fun j => ((upd P' i (p + 1) j : Nat) : Int))) (.int .i64 ((p : Int) + 1)) HM.out.passed sz3 (by rw [tabI_size]; exact hi) rfl (by rw [← upd_nat]; exact tabI_set _ _ _ hi _) ?_ ?_ ?_; exact rfl; exact rfl; intro w3 hp3)
          | fail)
        go_roundw
        case rel => exact ⟨p + 1, upd P' i (p + 1), by omega, upd_same _ _ _, fun j h => (upd_other _ _ h).trans (HPO.out j h), (HM.out.drewN _).pass hp3, (HO.out.trans (Only.of_below ((Qt.drewN wr _).below _)) (fun _ h => .inl h)).trans hp3.only (fun n h => .inl h), HDN.out HLN.out⟩
        case measure =>
          have e3 : cellNat w3 gp i = p + 1 := by
            unfold cellNat; rw [tabI_cell hp3.at' i hi, upd_same]; rfl
          rw [HC.out, e3]; omega
    · have t0 : decide ((p : Int) < (xl.length : Int)) = false := by simp; omega
      go_wp2
      go_quiet (fail)
      go_wp2
      go_ret
      exact ⟨by rw [pts_none HG.out (fun q hq => HD.out q hq (by omega))]; rfl, HO.out.trans (Only.of_below ((Qt.drewN wr _).below _)) (fun _ h => .inl h), P', HM.out.drewN _, HPU.out p hp HD.out P' HPO.out HPP.out⟩
end Go.Proofs.Ytpikmcapnmdmbaa
