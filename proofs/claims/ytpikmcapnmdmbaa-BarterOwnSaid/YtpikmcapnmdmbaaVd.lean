/-
  Layer 22: the program's end of a contract.
-/
import Derived.Test.YtpikmcapnmdmbaaVc
import Derived.Test.YtpikmcapnmdmbaaPg
import Derived.Test.YtpikmcapnmdmbaaWx
namespace Go.Proofs.Ytpikmcapnmdmbaa
open Go.RowKit Go.K Go.Maps
set_option linter.unusedVariables false
set_option linter.unusedSimpArgs false
def wE (e : Ent) : Wl := ⟨e.wa, e.wc, e.ws⟩
def mWs (es : List Ent) (L : List Int) (k : Nat) : List Wl := (mIx L k).filterMap fun i => (es[i]?).map wE
theorem mWs_succ (es : List Ent) (L : List Int) (k : Nat) (h : k < es.length) : mWs es L (k + 1) = mWs es L k ++ if isM L k = true then [wE es[k]] else [] := by
  unfold mWs
  rw [mIx_succ, List.filterMap_append]
  congr 1
  split
  · simp [List.getElem?_eq_getElem h]
  · rfl
theorem mWs_length (es : List Ent) (L : List Int) : ∀ k, k ≤ es.length → (mWs es L k).length = (mIx L k).length
  | 0, _ => rfl
  | k + 1, h => by
    rw [mWs_succ es L k (by omega), mIx_succ, List.length_append, List.length_append, mWs_length es L k (by omega)]
    split <;> rfl
theorem mWs_mem {es : List Ent} {L : List Int} {k : Nat} {x : Wl} (h : x ∈ mWs es L k) : ∃ e ∈ es, x = wE e := by
  obtain ⟨i, _, hi⟩ := List.mem_filterMap.1 h
  cases he : es[i]? with
  | none => rw [he] at hi; cases hi
  | some e =>
    rw [he] at hi
    exact ⟨e, List.mem_of_getElem? he, (Option.some.inj hi).symm⟩
theorem EntOk.wl {W : World} {e : Ent} (h : EntOk W e) : WlOk W (wE e) := ⟨h.sl, h.le, h.mx, h.nil, h.wf⟩
/-- The place of an entry in the meet, counted from 1; 0: it is not in it. -/
def plE (L : List Int) (k i : Nat) : Int := if i < k ∧ isM L i = true then ((mIx L i).length : Int) + 1 else 0
theorem plE_zero (L : List Int) : plE L 0 = fun _ => 0 := by funext i; simp [plE]
theorem plE_no (L : List Int) (k : Nat) (h : isM L k = false) : plE L (k + 1) = plE L k := by
  funext i
  unfold plE
  by_cases e : i = k
  · subst e; simp [h]
  · by_cases h1 : i < k
    · simp [h1, show i < k + 1 by omega]
    · simp [h1, show ¬ i < k + 1 by omega]
theorem plE_yes (L : List Int) (k : Nat) (h : isM L k = true) : plE L (k + 1) = upd (plE L k) k (((mIx L k).length : Int) + 1) := by
  funext i
  unfold plE upd
  by_cases e : i = k
  · subst e; simp [h]
  · by_cases h1 : i < k
    · simp [h1, e, show i < k + 1 by omega]
    · simp [h1, e, show ¬ i < k + 1 by omega]
theorem mIx_mono (L : List Int) {a b : Nat} (h : a ≤ b) : (mIx L a).length ≤ (mIx L b).length := by
  induction h with
  | refl => exact Nat.le_refl _
  | step h ih => rw [mIx_succ, List.length_append]; omega
theorem mIx_lt (L : List Int) {q n : Nat} (h : q < n) (hm : isM L q = true) : (mIx L q).length < (mIx L n).length := by
  have := mIx_mono L (show q + 1 ≤ n from h)
  rw [mIx_succ, if_pos hm, List.length_append] at this
  simp at this
  omega
structure EI (w : World) (c : Con) (k : Nat) (v3 v4 : Value) (W : World) : Prop where
  bel : Below w.heap.size w W
  box : Box W w.heap.size c
  pl : W.heap[w.heap.size + 1]? = some (.cells (tabI c.es.length (plE (c.es.map Ent.item) k)) 3 (0, 0))
  mp : ∃ D : DataW Unit, W.ownsMap Try.prog 3 (plainElem Try.prog 3) (w.heap.size + 2) (mIx (c.es.map Ent.item) k).length D ∧ ∀ x : Int, Maps.has D (.int .i64 x) = decide (x ∈ mIs (c.es.map Ent.item) k)
  r3 : W.ownsRow (w.heap.size + 3) 3 1 v3 (mIx (c.es.map Ent.item) k).length (vI (mIs (c.es.map Ent.item) k))
  r4 : W.ownsRow (w.heap.size + 3) 22 1 v4 (mIx (c.es.map Ent.item) k).length (wV (mWs c.es (c.es.map Ent.item) k))
theorem EI.alloc {w : World} {c : Con} {k : Nat} {v3 v4 : Value} {W : World} (h : EI w c k v3 v4 W) (o : Obj) : EI w c k v3 v4 (W.alloc o) := by
  obtain ⟨D, hD, hx⟩ := h.mp
  exact ⟨h.bel.alloc h.bel.size o, h.box.alloc o, alloc_old h.pl, ⟨D, hD.alloc o, hx⟩, h.r3.alloc o, h.r4.alloc o⟩
theorem EI.size {w : World} {c : Con} {k : Nat} {v3 v4 : Value} {W : World} (h : EI w c k v3 v4 W) : w.heap.size + 3 ≤ W.heap.size := by
  obtain ⟨D, hD, _⟩ := h.mp
  have := hD.lt
  omega
theorem EI.no {w : World} {c : Con} {k : Nat} {v3 v4 : Value} {W : World} (h : EI w c k v3 v4 W) (hk : k < c.es.length) (hm : isM (c.es.map Ent.item) k = false) : EI w c (k + 1) v3 v4 W := by
  have e1 : mIx (c.es.map Ent.item) (k + 1) = mIx (c.es.map Ent.item) k := by rw [mIx_succ, if_neg (by rw [hm]; decide), List.append_nil]
  have e2 : mIs (c.es.map Ent.item) (k + 1) = mIs (c.es.map Ent.item) k := by rw [mIs, e1]; rfl
  have e3 : mWs c.es (c.es.map Ent.item) (k + 1) = mWs c.es (c.es.map Ent.item) k := by rw [mWs, e1]; rfl
  exact ⟨h.bel, h.box, by rw [plE_no _ _ hm]; exact h.pl, by rw [e1, e2]; exact h.mp, by rw [e1, e2]; exact h.r3, by rw [e1, e3]; exact h.r4⟩
theorem isM_no {L : List Int} {k : Nat} (hk : k < L.length) (h : L.getD k 0 < 1 ∨ L.getD k 0 ∈ mIs L k) : isM L k = false := by
  unfold isM
  rcases h with h | h
  · rw [decide_eq_false (by omega)]; rfl
  · have := (mIs_mem L _ k (by omega)).1 h
    rw [decide_eq_true this.1]; simp
theorem isM_yes {L : List Int} {k : Nat} (hk : k < L.length) (h1 : 1 ≤ L.getD k 0) (h2 : L.getD k 0 ∉ mIs L k) : isM L k = true := by
  have : L.getD k 0 ∉ L.take k := fun h => h2 ((mIs_mem L _ k (by omega)).2 ⟨h, h1⟩)
  unfold isM
  rw [decide_eq_true h1, decide_eq_false this]; rfl
theorem EI.yes {w : World} {c : Con} {k : Nat} {v3 v4 u3 u4 : Value} {W W3 : World} {D : DataW Unit} (h : EI w c k v3 v4 W) (hk : k < c.es.length) (hm : isM (c.es.map Ent.item) k = true) (hb3 : Below w.heap.size w W3) (hbox : Box W3 w.heap.size c)
    (hpl : W3.heap[w.heap.size + 1]? = some (.cells (tabI c.es.length (upd (plE (c.es.map Ent.item) k) k (((mIx (c.es.map Ent.item) k).length : Int) + 1))) 3 (0, 0)))
    (hD : ∀ x : Int, Maps.has D (.int .i64 x) = decide (x ∈ mIs (c.es.map Ent.item) k))
    (hmp : W3.ownsMap Try.prog 3 (plainElem Try.prog 3) (w.heap.size + 2) ((mIx (c.es.map Ent.item) k).length + 1) (D.put (.int .i64 (c.es[k]).item) (.lit (.int .i64 (k : Int))))) (hIs : IsMap D)
    (h3 : W3.ownsRow (w.heap.size + 3) 3 1 u3 ((mIx (c.es.map Ent.item) k).length + 1) (vI (mIs (c.es.map Ent.item) k) ++ [.int .i64 (c.es[k]).item]))
    (h4 : W3.ownsRow (w.heap.size + 3) 22 1 u4 ((mIx (c.es.map Ent.item) k).length + 1) (wV (mWs c.es (c.es.map Ent.item) k) ++ [(wE c.es[k]).v])) : EI w c (k + 1) u3 u4 W3 := by
  have hg : (c.es.map Ent.item).getD k 0 = c.es[k].item := by simp [List.getD_eq_getElem?_getD, List.getElem?_eq_getElem hk]
  have e1 : mIx (c.es.map Ent.item) (k + 1) = mIx (c.es.map Ent.item) k ++ [k] := by rw [mIx_succ, if_pos hm]
  have e2 : mIs (c.es.map Ent.item) (k + 1) = mIs (c.es.map Ent.item) k ++ [c.es[k].item] := by rw [mIs_succ, if_pos hm, hg]
  have e3 : mWs c.es (c.es.map Ent.item) (k + 1) = mWs c.es (c.es.map Ent.item) k ++ [wE c.es[k]] := by rw [mWs_succ _ _ _ hk, if_pos hm]
  refine ⟨hb3, hbox, by rw [plE_yes _ _ hm]; exact hpl, ⟨_, by rw [e1, List.length_append]; exact hmp, fun x => ?_⟩, ?_, ?_⟩
  · rw [e2]
    by_cases e : x = c.es[k].item
    · subst e
      rw [has_put_same hIs (by trivial)]; symm
      rw [decide_eq_true_eq]; simp
    · rw [has_put_other (by intro e'; injection e' with _ e'; exact e e'), hD, decide_eq_decide, List.mem_append, List.mem_singleton]
      exact ⟨.inl, fun h => h.elim id (fun h => absurd h e)⟩
  · rw [e1, e2, List.length_append, vI_append]; exact h3
  · rw [e1, e3, List.length_append, wV_append]; exact h4
theorem sl_past {W W' : World} {row : Option Nat} (hg : W.grownBy W' row) {g : Nat} {vs : List Value} (h : Sl W (some ⟨g, 0, none⟩) vs) (hne : some g ≠ row) : Sl W' (some ⟨g, 0, none⟩) vs := by
  intro hn
  obtain ⟨b, off, e, hc⟩ := h hn
  cases e
  refine ⟨g, 0, rfl, fun i hi => ?_⟩
  have := hc i hi
  rw [List.getElem?_eq_getElem hi] at this ⊢
  exact hg.cell this hne
theorem map_below {H : Type} {P : Program} {k : TypeId} {R : Value → Option (DataW H × List MemPlace)} {B b n : Nat} {D : DataW H} {a w : World} (h : a.ownsMap P k R b n D) (hb : Below B a w) (hlt : b < B) : w.ownsMap P k R b n D := by
  obtain ⟨es, ck, hr, h2⟩ := h
  exact ⟨es, ck, (hb.block _ hlt).trans hr, h2⟩
theorem oneCell_gFlat (l : List Gi) : ∀ u ∈ gFlat l, u.oneCell' = true := by
  intro u hu
  obtain ⟨g, _, hg⟩ := List.mem_flatMap.1 hu
  simp only [Gi.cells, List.mem_cons, List.not_mem_nil, or_false] at hg
  rcases hg with rfl | rfl | rfl <;> rfl
def EndAns (w : World) (c : Con) (r : Ending) (w' : World) : Prop :=
  ∃ (v : Value) (G : Nat → Int), r = .returned v ∧ Got (mIs (c.es.map Ent.item) c.es.length) ((mWs c.es (c.es.map Ent.item) c.es.length).map Wl.l) G ∧
    w'.ownsRow w.heap.size 86 3 v (endG c.es (c.es.map Ent.item) G c.es.length).length (gFlat (endG c.es (c.es.map Ent.item) G c.es.length)) ∧ Below w.heap.size w w'
theorem makeM (w : World) : (Instr.makeMap 66 none).run Try.prog w = .ok (.map (some w.heap.size)) (w.alloc (.map #[] 0)) := by
  simp [Instr.makeMap, run_underlying Try.underlying66, Result.andThen]
set_option maxRecDepth 100000 in
set_option maxHeartbeats 4000000 in
theorem end_any (c : Con) (w : World) (hc : ConOk w c) (hn : c.es.length ≤ 3000) : Calls Try.prog 28 #[c.agg] w (EndAns w c) := by
  have HC := Lib.hid hc
  have HN := Lib.hid hn
  have hm22 := make22 c.es.length (by omega)
  have hmm := makeM
  clear hc
  unfold EndAns
  have HBX := Lib.hid (show Box (w.alloc (.cells #[.int .i64 c.num, .int .i64 c.kind, .int .i64 c.by', .int .i64 c.dl, .int .i64 c.to', .int .i64 c.want, .int .u64 c.price, .int .u64 c.reserve, .int .u64 c.step, .int .i64 c.of', .slice c.ea c.es.length c.ec] 45)) w.heap.size c from alloc_at rfl)
  have z10 := HBX.out.cells.2.2.2.2.2.2.2.2.2.2
  have z10' := HBX.out.cellsA.2.2.2.2.2.2.2.2.2.2
  have z10'' := (HBX.out.alloc (.cells (tabI c.es.length (fun _ => 0)) 3)).cellsA.2.2.2.2.2.2.2.2.2.2
  unfold Con.agg
  go_enter Try.func28, Try.ntmps28
  go_wp2
  clear z10 z10' z10'' hm22 hmm
  go_loopw [3, 4, 7, 8, 9, 10, 26] (fun v3' v4' s7 s8 s9 s10 i wr => ∃ (k : Nat) (v3 v4 : Value), v3 = v3' ∧ v4 = v4' ∧ k ≤ c.es.length ∧ i = .int .i64 k ∧ EI w c k v3 v4 wr) (fun _ _ _ _ _ _ i _ => c.es.length - (intOf i).toNat)
  case atStart =>
    refine ⟨0, _, _, rfl, rfl, by omega, rfl, ?_⟩
    refine ⟨(((Below.refl _ _).alloc (Nat.le_refl _) _).alloc (by simp) _).alloc (by simp; omega) _, (HBX.out.alloc _).alloc _, alloc_old (alloc_at (by simp)), ⟨.map [], ?_, fun x => by simp [Maps.has, mIs, mIx]⟩, World.ownsRow_nil _ _ _ _, World.ownsRow_nil _ _ _ _⟩
    have := World.ownsMap_made ((w.alloc (.cells #[.int .i64 c.num, .int .i64 c.kind, .int .i64 c.by', .int .i64 c.dl, .int .i64 c.to', .int .i64 c.want, .int .u64 c.price, .int .u64 c.reserve, .int .u64 c.step, .int .i64 c.of', .slice c.ea c.es.length c.ec] 45)).alloc (.cells (tabI c.es.length (fun _ => 0)) 3)) Try.prog 3 (plainElem Try.prog 3 (H := Unit))
    rw [World.size_alloc, World.size_alloc] at this
    exact this
  case round =>
    clear HBX
    obtain ⟨k, v3, v4, e3, e4, hk, rfl, hi⟩ := hrel
    subst e3 e4
    have HI := Lib.hid hi
    clear hi
    by_cases hlt : k < c.es.length
    · have t0 : decide ((k : Int) < (c.es.length : Int)) = true := by simp; omega
      have i1 : (k : Int) < (c.es.length : Int) := by omega
      obtain ⟨ob, oo, hea, f0, f1, f2, f3, f4⟩ := ent_at ((HC.out.kept HI.out.bel).sl) k hlt
      rw [hea]
      have HIW := Lib.hid (HC.out.ents _ (List.getElem_mem hlt)).iw
      have HNO := Lib.hid (fun h => HI.out.no hlt (isM_no (by simpa using hlt) h))
      have HYE := Lib.hid (fun h1 h2 => isM_yes (L := c.es.map Ent.item) (k := k) (by simpa using hlt) h1 h2)
      have hgd : (c.es.map Ent.item).getD k 0 = c.es[k].item := by simp [List.getD_eq_getElem?_getD, List.getElem?_eq_getElem hlt]
      rw [hgd] at HNO HYE
      obtain ⟨D, hD, hhas⟩ := HI.out.mp
      have HO := Lib.hid (hD.alloc (.cells #[.int .i64 c.es[k].acc, .int .i64 c.es[k].item, .int .u64 c.es[k].coins, .int .u64 c.es[k].price, .slice c.es[k].wa c.es[k].ws.length c.es[k].wc] 48))
      have HH := Lib.hid hhas
      have hkey := keyOf_int_mk Try.underlying3 HIW.out
      have HX := Lib.hid (show ∀ x : Ent, x = c.es[k] → True from fun _ _ => trivial)
      clear hgd hD hhas hea
      have HE0 := Lib.hid (show ∃ x : Ent, x = c.es[k] from ⟨_, rfl⟩)
      obtain ⟨x, hx⟩ := HE0.out
      rw [← hx] at f0 f1 f2 f3 f4 HIW HNO HYE HO hkey
      have HXE := Lib.hid hx
      clear hx HE0 HX
      by_cases hin : x.item ∈ mIs (c.es.map Ent.item) k
      · have h1 : Maps.has D (.int .i64 x.item) = true := by rw [HH.out]; simpa using hin
        have HNX := Lib.hid (HNO.out (.inr hin))
        clear hin
        go_wp2_with (first
          | (at_lookup; refine wpList_lookup_own_ok_int _ rfl _ _ 66 rfl 3 3 .i64 law3 Try.underlying66 Try.underlying3 (zero3 _) (w.heap.size + 2) (mIx (c.es.map Ent.item) k).length _ rfl HO.out _ _ rfl hkey ?_; intro q hat hwc)
          | fail)
        go_roundw
        case rel => exact ⟨k + 1, _, _, rfl, rfl, by omega, by go_num, HNX.out.alloc _⟩
        case measure => simp [intOf]; omega
      · have h1 : Maps.has D (.int .i64 x.item) = false := by rw [HH.out]; simpa using hin
        by_cases hx1 : x.item < 1
        · have h2 : decide (x.item < 1) = true := by simpa using hx1
          have HNX := Lib.hid (HNO.out (.inl hx1))
          clear hin hx1
          go_wp2_with (first
            | (at_lookup; refine wpList_lookup_own_ok_int _ rfl _ _ 66 rfl 3 3 .i64 law3 Try.underlying66 Try.underlying3 (zero3 _) (w.heap.size + 2) (mIx (c.es.map Ent.item) k).length _ rfl HO.out _ _ rfl hkey ?_; intro q hat hwc)
            | fail)
          go_roundw
          case rel => exact ⟨k + 1, _, _, rfl, rfl, by omega, by go_num, HNX.out.alloc _⟩
          case measure => simp [intOf]; omega
        · have h2 : decide (x.item < 1) = false := by simpa using hx1
          have HYX := Lib.hid (HYE.out (by omega) hin)
          have HML := Lib.hid (mIx_le (c.es.map Ent.item) k)
          have HWV := Lib.hid (And.intro (HC.out.ents _ (List.getElem_mem hlt)) HXE.out)
          clear hin hx1
          generalize hm0 : (mIx (c.es.map Ent.item) k).length = m at *
          have HM0 := Lib.hid hm0
          clear hm0
          have hml := HML.out
          have hcn := HN.out
          have E := wr.heap.size
          have HEB := Lib.hid (show Below wr.heap.size wr (wr.alloc (.cells #[.int .i64 x.acc, .int .i64 x.item, .int .u64 x.coins, .int .u64 x.price, .slice x.wa x.ws.length x.wc] 48)) from (Below.refl _ _).alloc (Nat.le_refl _) _)
          clear E
          have HSZ := Lib.hid HI.out.size
          have HR3 := Lib.hid (show wr.ownsRow (w.heap.size + 3) 3 1 v3 m (vI (mIs (c.es.map Ent.item) k)) by have := HI.out.r3; rw [HM0.out] at this; exact this)
          have HR4 := Lib.hid (show wr.ownsRow (w.heap.size + 3) 22 1 v4 m (wV (mWs c.es (c.es.map Ent.item) k)) by have := HI.out.r4; rw [HM0.out] at this; exact this)
          go_wp2_with (first
            | (at_lookup; refine wpList_lookup_own_ok_int _ rfl _ _ 66 rfl 3 3 .i64 law3 Try.underlying66 Try.underlying3 (zero3 _) (w.heap.size + 2) m _ rfl HO.out _ _ rfl hkey ?_; intro q hat hwc)
            | (at_mapUpdate; refine wpList_mapUpdate_own _ rfl _ _ _ 66 rfl 3 3 law3 Try.underlying66 _ (w.heap.size + 2) m _ rfl HO.out (by unfold maxLen; omega) _ _ _ rfl rfl hkey _ [] (plainElem_int Try.underlying3 (WalkArith.wf_i64 (by omega))) ?_; intro w1 hown1 hgrow1
               have g1 := grown_cell hgrow1 (show (wr.alloc (.cells #[.int .i64 x.acc, .int .i64 x.item, .int .u64 x.coins, .int .u64 x.price, .slice x.wa x.ws.length x.wc] 48)).cell? ⟨wr.heap.size, 1, none⟩ = some (.int .i64 x.item) by rw [cell_of_row _ _ _ _ _ _ (alloc_at rfl)]; rfl) (by have := HSZ.out; omega)
               have g4 := grown_cell hgrow1 (show (wr.alloc (.cells #[.int .i64 x.acc, .int .i64 x.item, .int .u64 x.coins, .int .u64 x.price, .slice x.wa x.ws.length x.wc] 48)).cell? ⟨wr.heap.size, 4, none⟩ = some (.slice x.wa x.ws.length x.wc) by rw [cell_of_row _ _ _ _ _ _ (alloc_at rfl)]; rfl) (by have := HSZ.out; omega))
            | fail)
          have HG1 := Lib.hid hgrow1
          have HO1 := Lib.hid hown1
          have HPL1 := Lib.hid (show w1.heap[w.heap.size + 1]? = some (.cells (tabI c.es.length (plE (c.es.map Ent.item) k)) 3 (0, 0)) from row_past (alloc_old HI.out.pl) hgrow1 (fun e => by injection e with e; omega))
          have HBO1 := Lib.hid (show Box w1 w.heap.size c from row_past (HI.out.box.alloc _) hgrow1 (fun e => by injection e with e; omega))
          have ho3 := (HR3.out.alloc (.cells #[.int .i64 x.acc, .int .i64 x.item, .int .u64 x.coins, .int .u64 x.price, .slice x.wa x.ws.length x.wc] 48)).kept hgrow1 (.inr (fun e => by have := (HR3.out.lt _ e).1; omega))
          have ho4 := (HR4.out.alloc (.cells #[.int .i64 x.acc, .int .i64 x.item, .int .u64 x.coins, .int .u64 x.price, .slice x.wa x.ws.length x.wc] 48)).kept hgrow1 (.inr (fun e => by have := (HR4.out.lt _ e).1; omega))
          have hd1 : Below w1.heap.size w1 w1.drew := below_drawn (Below.refl _ _) _
          have HO3 := Lib.hid (owns_below (B := 0) ho3 hd1)
          have HO4 := Lib.hid (owns_below (B := 0) ho4 hd1)
          have HN3 := Lib.hid (show some wr.heap.size ≠ v3.ownBlock from fun e => by have := (HR3.out.lt _ e.symm).2; omega)
          have HN4 := Lib.hid (show some wr.heap.size ≠ v4.ownBlock from fun e => by have := (HR4.out.lt _ e.symm).2; omega)
          have HSZ1 := Lib.hid (show w.heap.size + 3 ≤ w1.heap.size by have h1 := hgrow1.size; have h2 := HSZ.out; simp only [World.size_alloc] at h1; omega)
          have B1 := Lib.hid (show m + 1 ≤ maxLen by unfold maxLen; omega)
          have B2 := Lib.hid (show (m + 1) * 8 ≤ 140737488355328 by omega)
          have B3 := Lib.hid (show (m + 1) * 24 ≤ 140737488355328 by omega)
          have SB3 := Lib.hid (show Sl ((w1.drew.alloc (.cells #[.int .i64 x.item] 3)).alloc (.cells #[.slice x.wa x.ws.length x.wc] 22)) (some ⟨w1.heap.size, 0, none⟩) [.int .i64 x.item] from (sl_new w1.drew [.int .i64 x.item] 3 (0, 0)).kept ((Below.refl _ _).alloc (Nat.le_refl _) _))
          have SB8 := Lib.hid (show Sl ((w1.drew.alloc (.cells #[.int .i64 x.item] 3)).alloc (.cells #[.slice x.wa x.ws.length x.wc] 22)) (some ⟨w1.heap.size + 1, 0, none⟩) [.slice x.wa x.ws.length x.wc] by
            have := sl_new (w1.drew.alloc (.cells #[.int .i64 x.item] 3)) [.slice x.wa x.ws.length x.wc] 22 (0, 0); rw [World.size_alloc] at this; exact this)
          have SC8 := Lib.hid (show Sl ((w1.drew.alloc (.cells #[.slice x.wa x.ws.length x.wc] 22)).alloc (.cells #[.int .i64 x.item] 3)) (some ⟨w1.heap.size, 0, none⟩) [.slice x.wa x.ws.length x.wc] from (sl_new w1.drew [.slice x.wa x.ws.length x.wc] 22 (0, 0)).kept ((Below.refl _ _).alloc (Nat.le_refl _) _))
          have SC3 := Lib.hid (show Sl ((w1.drew.alloc (.cells #[.slice x.wa x.ws.length x.wc] 22)).alloc (.cells #[.int .i64 x.item] 3)) (some ⟨w1.heap.size + 1, 0, none⟩) [.int .i64 x.item] by
            have := sl_new (w1.drew.alloc (.cells #[.slice x.wa x.ws.length x.wc] 22)) [.int .i64 x.item] 3 (0, 0); rw [World.size_alloc] at this; exact this)
          clear ho3 ho4 hd1 hgrow1 hown1
          go_region_held3 (fun V => V.cell? ⟨wr.heap.size, 1, none⟩ = some (.int .i64 x.item) ∧ V.cell? ⟨wr.heap.size, 4, none⟩ = some (.slice x.wa x.ws.length x.wc)) (go_keep)
            ((first
              | ((with_reducible refine at_append_step ?_); refine step_append_sl_at (by rfl) _ _ 22 (by rfl) (w.heap.size + 3) 3 (.int .i64 0) 1 8 Try.underlying22 infoI (by rfl) (by decide) v3 m (vI (mIs (c.es.map Ent.item) k)) (by rfl) (HO3.out.alloc _) _ 1 1 [.int .i64 x.item] (by rfl) (fun h => by cases h) (by rfl) (sl_new _ _ _ _) (one_int _ _) B1.out B2.out (Nat.le_trans HSZ1.out (by simp <;> omega)) ?_; intro u3 w2 ho3 hg3 hl3
                 have hba := (Below.refl w1.drew.heap.size w1.drew).alloc (Nat.le_refl _) (.cells #[.int .i64 x.item] 3)
                 have p1 := hg3.cell (below_cell hba g1) HN3.out; have p4 := hg3.cell (below_cell hba g4) HN3.out
                 have hbb : Below (w.heap.size + 3) w1.drew w2 := (hba.mono HSZ1.out).grown hg3 (Nat.le_trans HSZ1.out hba.size) (fun k hk => (HO3.out.lt k hk).1)
                 have ho4 := (HO4.out.alloc (.cells #[.int .i64 x.item] 3)).kept hg3 (owns_apart' HO4.out HO3.out (by decide)))
              | ((with_reducible refine at_append_step ?_); refine step_append_sl_at (by rfl) _ _ 22 (by rfl) (w.heap.size + 3) 3 (.int .i64 0) 1 8 Try.underlying22 infoI (by rfl) (by decide) v3 m (vI (mIs (c.es.map Ent.item) k)) (by rfl) ((HO3.out.alloc _).alloc _) _ 1 1 [.int .i64 x.item] (by rfl) (fun h => by cases h) (by rfl) SB3.out (one_int _ _) B1.out B2.out (Nat.le_trans HSZ1.out (by simp <;> omega)) ?_; intro u3 w2 ho3 hg3 hl3
                 have hba := ((Below.refl w1.drew.heap.size w1.drew).alloc (Nat.le_refl _) (.cells #[.int .i64 x.item] 3)).alloc (by simp) (.cells #[.slice x.wa x.ws.length x.wc] 22)
                 have p1 := hg3.cell (below_cell hba g1) HN3.out; have p4 := hg3.cell (below_cell hba g4) HN3.out
                 have hbb : Below (w.heap.size + 3) w1.drew w2 := (hba.mono HSZ1.out).grown hg3 (Nat.le_trans HSZ1.out hba.size) (fun k hk => (HO3.out.lt k hk).1)
                 have ho4 := ((HO4.out.alloc (.cells #[.int .i64 x.item] 3)).alloc (.cells #[.slice x.wa x.ws.length x.wc] 22)).kept hg3 (owns_apart' HO4.out HO3.out (by decide))
                 have s8 := sl_past hg3 SB8.out (fun e => by have := (HO3.out.lt _ e.symm).2; simp only [World.size_drew] at this; omega))
              | ((with_reducible refine at_append_step ?_); refine step_append_sl_at (by rfl) _ _ 22 (by rfl) (w.heap.size + 3) 3 (.int .i64 0) 1 8 Try.underlying22 infoI (by rfl) (by decide) v3 m (vI (mIs (c.es.map Ent.item) k)) (by rfl) ((HO3.out.alloc _).alloc _) _ 1 1 [.int .i64 x.item] (by rfl) (fun h => by cases h) (by rfl) SC3.out (one_int _ _) B1.out B2.out (Nat.le_trans HSZ1.out (by simp <;> omega)) ?_; intro u3 w2 ho3 hg3 hl3
                 have hba := ((Below.refl w1.drew.heap.size w1.drew).alloc (Nat.le_refl _) (.cells #[.slice x.wa x.ws.length x.wc] 22)).alloc (by simp) (.cells #[.int .i64 x.item] 3)
                 have p1 := hg3.cell (below_cell hba g1) HN3.out; have p4 := hg3.cell (below_cell hba g4) HN3.out
                 have hbb : Below (w.heap.size + 3) w1.drew w2 := (hba.mono HSZ1.out).grown hg3 (Nat.le_trans HSZ1.out hba.size) (fun k hk => (HO3.out.lt k hk).1)
                 have ho4 := ((HO4.out.alloc (.cells #[.slice x.wa x.ws.length x.wc] 22)).alloc (.cells #[.int .i64 x.item] 3)).kept hg3 (owns_apart' HO4.out HO3.out (by decide))
                 have s8 := sl_past hg3 SC8.out (fun e => by have := (HO3.out.lt _ e.symm).2; simp only [World.size_drew] at this; omega))
              | ((with_reducible refine at_append_step ?_); refine step_append_sl_at (by rfl) _ _ 23 (by rfl) (w.heap.size + 3) 22 (.slice none 0 0) 1 24 Try.underlying23 infoS (by rfl) (by decide) v4 m (wV (mWs c.es (c.es.map Ent.item) k)) (by rfl) (ho4.alloc _) _ 1 1 [.slice x.wa x.ws.length x.wc] (by rfl) (fun h => by cases h) (by rfl) (sl_new _ _ _ _) (oneCell_sl _ _ _) B1.out B3.out (Nat.le_trans HSZ1.out (Nat.le_trans hbb.size (by simp))) ?_; intro u4 w3 ho5 hg4 hl4
                 have hbc := (Below.refl w2.heap.size w2).alloc (Nat.le_refl _) (.cells #[.slice x.wa x.ws.length x.wc] 22)
                 have q1 := hg4.cell (below_cell hbc p1) HN4.out; have q4 := hg4.cell (below_cell hbc p4) HN4.out
                 have hbd : Below (w.heap.size + 3) w1.drew w3 := (hbb.trans (hbc.mono (Nat.le_trans HSZ1.out hbb.size))).grown hg4 (Nat.le_trans HSZ1.out (Nat.le_trans hbb.size hbc.size)) (fun k hk => (HO4.out.lt k hk).1)
                 have ho6 := (ho3.alloc (.cells #[.slice x.wa x.ws.length x.wc] 22)).kept hg4 (owns_apart' ho3 ho4 (by decide)))
              | ((with_reducible refine at_append_step ?_); refine step_append_sl_at (by rfl) _ _ 23 (by rfl) (w.heap.size + 3) 22 (.slice none 0 0) 1 24 Try.underlying23 infoS (by rfl) (by decide) v4 m (wV (mWs c.es (c.es.map Ent.item) k)) (by rfl) ho4 _ 1 1 [.slice x.wa x.ws.length x.wc] (by rfl) (fun h => by cases h) (by rfl) s8 (oneCell_sl _ _ _) B1.out B3.out (Nat.le_trans HSZ1.out hbb.size) ?_; intro u4 w3 ho5 hg4 hl4
                 have hbc := Below.refl w2.heap.size w2
                 have q1 := hg4.cell (below_cell hbc p1) HN4.out; have q4 := hg4.cell (below_cell hbc p4) HN4.out
                 have hbd : Below (w.heap.size + 3) w1.drew w3 := (hbb.trans (hbc.mono (Nat.le_trans HSZ1.out hbb.size))).grown hg4 (Nat.le_trans HSZ1.out (Nat.le_trans hbb.size hbc.size)) (fun k hk => (HO4.out.lt k hk).1)
                 have ho6 := (ho3).kept hg4 (owns_apart' ho3 ho4 (by decide)))))
          all_goals
            obtain ⟨a3, k3, rfl, hn3, hs3, hle3⟩ := owns_slice ho6
            have HF := Lib.hid (And.intro hbd (And.intro ho5 ho6))
            have HPL := Lib.hid (show w3.heap[w.heap.size + 1]? = some (.cells (tabI c.es.length (plE (c.es.map Ent.item) k)) 3 (0, 0)) from
              (hbd.block _ (by omega)).trans HPL1.out)
            have HBO := Lib.hid (show Box w3 w.heap.size c from (hbd.block _ (by omega)).trans HBO1.out)
            have HMP := Lib.hid (map_below HO1.out.drew hbd (by omega))
            have HBW := Lib.hid (show Below w.heap.size w w3 from ((((HI.out.bel.alloc HI.out.bel.size _).grown HG1.out (HI.out.bel.alloc HI.out.bel.size _).size (fun j hj => by cases hj; omega))).drew).trans (hbd.mono (by omega)))
            clear hbd ho5 ho6 hn3 hs3 hle3
            try clear p1 p4 q1 q4 hba hbb hbc ho3 ho4 hg3 hl3 hg4 hl4
            try clear s8
            go_wp2_with ((with_reducible refine at_store_op ?_); refine wpList_store_lit 3 (w.heap.size + 1) k (tabI c.es.length (upd (plE (c.es.map Ent.item) k) k ((m : Int) + 1))) (.int .i64 ((m : Int) + 1)) HPL.out sz3 (by rw [tabI_size]; exact hlt) rfl (tabI_set _ _ k hlt _) ?_ ?_ ?_; exact rfl; exact rfl; intro w4 hp4)
            have HF4 := Lib.hid (show EI w c (k + 1) (.slice a3 (m + 1) k3) u4 w4 by
              have e1 := HM0.out
              have e2 := HXE.out
              subst e1 e2
              exact HI.out.yes hlt HYX.out (hp4.below HBW.out HBW.out.size (by omega)) (hp4.row HBO.out (by omega)) hp4.at' HH.out (HMP.out.kept hp4.grown (fun e => by injection e with e; omega)) HO.out.isMap
                (HF.out.2.2.kept hp4.grown (.inr (fun e => by have := (HF.out.2.2.lt _ e).1; omega))) (HF.out.2.1.kept hp4.grown (.inr (fun e => by have := (HF.out.2.1.lt _ e).1; omega))))
            go_wp2
            go_roundw
            case rel => exact ⟨k + 1, _, _, rfl, rfl, by omega, by go_num, HF4.out⟩
            case measure => simp [intOf]; omega
    · have t0 : decide ((k : Int) < (c.es.length : Int)) = false := by simp; omega
      have hke : k = c.es.length := by omega
      subst hke
      obtain ⟨a3, k3, rfl, hn3, hs3, hle3⟩ := owns_slice HI.out.r3
      obtain ⟨a4, k4, rfl, hn4, hs4, hle4⟩ := owns_slice HI.out.r4
      have HMP := Lib.hid (mIs_meet (c.es.map Ent.item) c.es.length (by simp))
      have HIL := Lib.hid (mIs_length (c.es.map Ent.item) c.es.length)
      have HWL := Lib.hid (mWs_length c.es (c.es.map Ent.item) c.es.length (Nat.le_refl _))
      have HML := Lib.hid (mIx_le (c.es.map Ent.item) c.es.length)
      have HWS := Lib.hid (show WsOk wr a4 (mWs c.es (c.es.map Ent.item) c.es.length) from ⟨hs4, fun y hy => by
        obtain ⟨e, he, rfl⟩ := mWs_mem hy
        exact ((HC.out.ents e he).kept HI.out.bel).wl⟩)
      have HWF := Lib.hid (show Wf (mIs (c.es.map Ent.item) c.es.length) from fun y hy => by
        have := ((mIs_mem _ y c.es.length (by simp)).1 hy).1
        rw [List.take_of_length_le (by simp)] at this
        obtain ⟨e, he, rfl⟩ := List.mem_map.1 this
        exact (HC.out.ents e he).iw)
      have HMK := Lib.hid (fun q (hq : q < c.es.length) (hm : isM (c.es.map Ent.item) q = true) => mIx_lt (c.es.map Ent.item) hq hm)
      generalize hL : c.es.map Ent.item = L at *
      have HL := Lib.hid hL
      generalize hIS : mIs L c.es.length = IS at *
      generalize hWS : mWs c.es L c.es.length = WS at *
      generalize hm0 : (mIx L c.es.length).length = m at *
      have HIS := Lib.hid hIS
      have HWSE := Lib.hid hWS
      clear hL hIS hWS hm0
      have K12 := Lib.hid (show Calls Try.prog 12 #[.slice a3 m k3, .slice a4 m k4] wr fun r w' => ∃ s3 s4 s5, r = .returned (.tuple #[s3, s4, s5]) ∧ ClearAns IS WS wr (.returned (.tuple #[s3, s4, s5])) w' by
        have := clear_ans (wc := k4) (ic := k3) (by have := HML.out; have := HIL.out; omega) hs3 HWF.out HWS.out HWL.out
        rw [HIL.out] at this
        exact this)
      clear hn3 hs3 hle3 hn4 hs4 hle4
      go_wp2_with fail
      refine K12.out.mono ?_
      rintro r0 w1 ⟨s3, s4, s5, rfl, hans⟩
      rcases hans with ⟨⟨hr2, hno⟩ | ⟨hm, cs, gs, D, g, G, vc, B, hr2, hrun, hall, hgot, hgr, hg, hgB, hcy, hcr⟩, hb⟩
      · rw [HWL.out] at hno
        exact absurd HMP.out hno
      simp only [Ending.returned.injEq, Value.tuple.injEq, Array.mk.injEq, List.cons.injEq] at hr2
      obtain ⟨rfl, rfl, rfl, _⟩ := hr2
      rw [HIL.out] at hgr ⊢
      have HGOT := Lib.hid (show Got IS (WS.map Wl.l) G from ⟨cs, D, hrun, hall, hgot⟩)
      have HB1 := Lib.hid (HI.out.bel.trans (hb.mono HI.out.bel.size))
      have HBX := Lib.hid (show Box w1 w.heap.size c from HI.out.box.kept hb)
      have HPL := Lib.hid (show w1.heap[w.heap.size + 1]? = some (.cells (tabI c.es.length (plE L c.es.length)) 3 (0, 0)) by have := row_kept HI.out.pl hb; rw [HL.out] at this; exact this)
      have HGR := Lib.hid hgr
      have z10 := HBX.out.cells.2.2.2.2.2.2.2.2.2.2
      clear hm hrun hall hgot hgr hg hgB hcy hcr hb K12 HWS HWF HMP HI
      go_wp2
      clear z10
      go_loopw [14, 15, 16, 17, 74] (fun v' s15 s16 s17 i wr => ∃ (k : Nat) (v : Value), v = v' ∧ k ≤ c.es.length ∧ i = .int .i64 k ∧ Below w1.heap.size w1 wr ∧ wr.ownsRow w1.heap.size 86 3 v (endG c.es L G k).length (gFlat (endG c.es L G k))) (fun _ _ _ _ i _ => c.es.length - (intOf i).toNat)
      case atStart => exact ⟨0, _, rfl, by omega, rfl, Below.refl _ _, World.ownsRow_nil _ _ _ _⟩
      case round =>
        obtain ⟨wa, hwa⟩ : ∃ W, W = wr := ⟨_, rfl⟩
        subst hwa
        obtain ⟨k, v, hv, hk, rfl, hbw, hoo⟩ := hrel
        subst hv
        have HBW := Lib.hid hbw
        have HOO := Lib.hid hoo
        clear hbw hoo
        by_cases hlt : k < c.es.length
        case neg =>
          have t0 : decide ((k : Int) < (c.es.length : Int)) = false := by simp; omega
          have hke : k = c.es.length := by omega
          subst hke
          go_wp2
          go_ret
          exact ⟨_, G, rfl, by rw [HL.out, HIS.out, HWSE.out]; exact HGOT.out, by rw [HL.out]; exact owns_base HOO.out HB1.out.size, HB1.out.trans (HBW.out.mono HB1.out.size)⟩
        case pos =>
        have t0 : decide ((k : Int) < (c.es.length : Int)) = true := by simp; omega
        have i1 : (k : Int) < (c.es.length : Int) := by omega
        obtain ⟨ob, oo, hea, f0, f1, f2, f3, f4⟩ := ent_at ((HC.out.kept (HB1.out.trans (HBW.out.mono HB1.out.size))).sl) k hlt
        rw [hea]
        have HES := Lib.hid (endG_succ c.es L G k hlt)
        have HLN := Lib.hid (endG_len c.es L G k)
        have hgd : L.getD k 0 = c.es[k].item := by rw [← HL.out]; simp [List.getD_eq_getElem?_getD, List.getElem?_eq_getElem hlt]
        have HGD := Lib.hid hgd
        clear hgd hea
        generalize c.es[k] = x at *
        have pk := tabI_cell (row_kept HPL.out HBW.out) k hlt
        have pk' := below_cell ((Below.refl wa.heap.size wa).alloc (Nat.le_refl _) (.cells #[.int .i64 x.acc, .int .i64 x.item, .int .u64 x.coins, .int .u64 x.price, .slice x.wa x.ws.length x.wc] 48)) pk
        have HG1 := Lib.hid (row_kept HGR.out HBW.out)
        have hkn := HN.out
        have hnn : k ≤ 3000 := by omega
        go_upto_if 85 with fail
        go_cut [17] (fun s wc => s = .int .i64 (itemAt L G k) ∧ wa.alloc (.cells #[.int .i64 x.acc, .int .i64 x.item, .int .u64 x.coins, .int .u64 x.price, .slice x.wa x.ws.length x.wc] 48) = wc)
        case first =>
          by_cases hm : isM L k = true
          · have HMM := Lib.hid (HMK.out k hlt hm)
            have HPE := Lib.hid (show plE L c.es.length k = ((mIx L k).length : Int) + 1 by unfold plE; rw [if_pos ⟨hlt, hm⟩])
            have HIT := Lib.hid (show itemAt L G k = G (mIx L k).length by unfold itemAt; rw [if_pos hm])
            rw [HPE.out] at pk pk' ⊢
            have gk := below_cell ((Below.refl wa.heap.size wa).alloc (Nat.le_refl _) (.cells #[.int .i64 x.acc, .int .i64 x.item, .int .u64 x.coins, .int .u64 x.price, .slice x.wa x.ws.length x.wc] 48)) (tabI_cell HG1.out (mIx L k).length HMM.out)
            have hml := mIx_le L k
            generalize (mIx L k).length = mk at *
            have t1 : decide ((mk : Int) + 1 > 0) = true := decide_eq_true (by omega)
            have i2 : (mk : Int) + 1 - 1 = (mk : Int) := by omega
            have i3 : (mk : Int) < (m : Int) := by have := HMM.out; omega
            clear hm HPE
            go_wp2
            go_meet
            exact ⟨by rw [HIT.out], rfl⟩
          · have hm' : isM L k = false := by simpa using hm
            have HPE := Lib.hid (show plE L c.es.length k = 0 by unfold plE; rw [if_neg (by rw [hm']; simp)])
            have HIT := Lib.hid (show itemAt L G k = x.item by unfold itemAt; rw [hm']; exact HGD.out)
            rw [HPE.out] at pk pk' ⊢
            have t1 : decide ((0 : Int) > 0) = false := by decide
            clear hm hm' HPE
            go_wp2
            go_meet
            exact ⟨by rw [HIT.out], rfl⟩
        case rest =>
        obtain ⟨rfl, hwc⟩ := hcut
        have HBE := Lib.hid (show Below wa.heap.size wa (wa.alloc (.cells #[.int .i64 x.acc, .int .i64 x.item, .int .u64 x.coins, .int .u64 x.price, .slice x.wa x.ws.length x.wc] 48)) from (Below.refl _ _).alloc (Nat.le_refl _) _)
        have HRE := Lib.hid (show (wa.alloc (.cells #[.int .i64 x.acc, .int .i64 x.item, .int .u64 x.coins, .int .u64 x.price, .slice x.wa x.ws.length x.wc] 48)).heap[wa.heap.size]? = some (.cells #[.int .i64 x.acc, .int .i64 x.item, .int .u64 x.coins, .int .u64 x.price, .slice x.wa x.ws.length x.wc] 48) from alloc_at rfl)
        rw [hwc] at HBE HRE
        have HSE := Lib.hid (Nat.le_trans HBW.out.size HBE.out.size)
        have HNE := Lib.hid (show some wa.heap.size ≠ v.ownBlock from fun h => by have := (HOO.out.lt _ h.symm).2; omega)
        have HOO := Lib.hid (show wc.ownsRow w1.heap.size 86 3 v (endG c.es L G k).length (gFlat (endG c.es L G k)) from owns_below (B := 0) HOO.out HBE.out)
        have HBW := Lib.hid (HBW.out.trans (HBE.out.mono HBW.out.size))
        have p0 : wc.cell? ⟨wa.heap.size, 0, none⟩ = some (.int .i64 x.acc) := by rw [cell_of_row _ _ _ _ _ _ HRE.out]; rfl
        have p2 : wc.cell? ⟨wa.heap.size, 2, none⟩ = some (.int .u64 x.coins) := by rw [cell_of_row _ _ _ _ _ _ HRE.out]; rfl
        clear hwc HRE pk pk' f0 f1 f2 f3 f4 t0 i1
        generalize itemAt L G k = y at *
        by_cases hy : y = 0
        · by_cases hcn : x.coins > 0
          · have HG := Lib.hid (show giftE x y = [] ++ [⟨x.acc, 0, x.coins⟩] by unfold giftE; rw [if_neg (fun h => h hy), if_pos hcn])
            have u1 : (y != 0) = false := by simpa using hy
            have u2 : decide (x.coins > 0) = true := decide_eq_true hcn
            clear hy hcn
            go_wp2_with (at_builtin; refine wpList_append_sl rfl _ _ 50 rfl w1.heap.size 86 (.agg #[.int .i64 0, .int .i64 0, .int .u64 0]) 3 24 Try.underlying50 infoG rfl (by decide) v (endG c.es L G k).length (gFlat (endG c.es L G k)) rfl (HOO.out.alloc _) (some ⟨wc.heap.size, 0, none⟩) 1 1 (gFlat [⟨x.acc, 0, x.coins⟩]) rfl (fun h => by cases h) ?gnya1 (sl_new _ _ _ _) (oneCell_gFlat _) ?gnya2 ?gnya3 ?gnya4 ?gnya5)
            case gnya1 => rfl
            case gnya2 => unfold maxLen; have := HLN.out; omega
            case gnya3 => have := HLN.out; omega
            case gnya4 => have := HBW.out.size; simp only [World.size_alloc]; omega
            intro v2 w2 ho2 hg2
            have hb2 : Below w1.heap.size w1 w2 := (HBW.out.alloc HBW.out.size (.cells #[.int .i64 x.acc, .int .i64 0, .int .u64 x.coins] 86)).grown hg2 (HBW.out.alloc HBW.out.size _).size (fun j hj => (HOO.out.lt j hj).1)
            have HO2 := Lib.hid ho2
            have HB2 := Lib.hid hb2
            clear ho2 hg2 hb2
            go_wp2
            go_roundw
            case rel => exact ⟨k + 1, _, rfl, by omega, by go_num, HB2.out, by rw [HES.out, HG.out, List.length_append, gFlat_append]; simpa [gFlat] using HO2.out⟩
            case measure => simp [intOf]; omega
          · have HG := Lib.hid (show giftE x y = [] ++ [] by unfold giftE; rw [if_neg (fun h => h hy), if_neg hcn])
            have u1 : (y != 0) = false := by simpa using hy
            have u2 : decide (x.coins > 0) = false := decide_eq_false hcn
            clear hy hcn
            go_wp2
            go_roundw
            case rel => exact ⟨k + 1, _, rfl, by omega, by go_num, HBW.out, by rw [HES.out, HG.out]; simpa using HOO.out⟩
            case measure => simp [intOf]; omega
        · by_cases hcn : x.coins > 0
          · have HG := Lib.hid (show giftE x y = [⟨x.acc, y, 0⟩] ++ [⟨x.acc, 0, x.coins⟩] by unfold giftE; rw [if_pos hy, if_pos hcn])
            have u1 : (y != 0) = true := by simpa using hy
            have u2 : decide (x.coins > 0) = true := decide_eq_true hcn
            clear hy hcn
            go_wp2_with (at_builtin; refine wpList_append_sl rfl _ _ 50 rfl w1.heap.size 86 (.agg #[.int .i64 0, .int .i64 0, .int .u64 0]) 3 24 Try.underlying50 infoG rfl (by decide) v (endG c.es L G k).length (gFlat (endG c.es L G k)) rfl (HOO.out.alloc _) (some ⟨wc.heap.size, 0, none⟩) 1 1 (gFlat [⟨x.acc, y, 0⟩]) rfl (fun h => by cases h) ?gyya1 (sl_new _ _ _ _) (oneCell_gFlat _) ?gyya2 ?gyya3 ?gyya4 ?gyya5)
            case gyya1 => rfl
            case gyya2 => unfold maxLen; have := HLN.out; omega
            case gyya3 => have := HLN.out; omega
            case gyya4 => have := HBW.out.size; simp only [World.size_alloc]; omega
            intro v2 w2 ho2 hg2
            have hb2 : Below w1.heap.size w1 w2 := (HBW.out.alloc HBW.out.size (.cells #[.int .i64 x.acc, .int .i64 y, .int .u64 0] 86)).grown hg2 (HBW.out.alloc HBW.out.size _).size (fun j hj => (HOO.out.lt j hj).1)
            have HO2 := Lib.hid ho2
            have HB2 := Lib.hid hb2
            have q0 := hg2.cell (below_cell ((Below.refl wc.heap.size wc).alloc (Nat.le_refl _) (.cells #[.int .i64 x.acc, .int .i64 y, .int .u64 0] 86)) p0) HNE.out
            have q2 := hg2.cell (below_cell ((Below.refl wc.heap.size wc).alloc (Nat.le_refl _) (.cells #[.int .i64 x.acc, .int .i64 y, .int .u64 0] 86)) p2) HNE.out
            clear ho2 hg2 hb2 p0 p2
            go_wp2_with (at_builtin; refine wpList_append_sl rfl _ _ 50 rfl w1.heap.size 86 (.agg #[.int .i64 0, .int .i64 0, .int .u64 0]) 3 24 Try.underlying50 infoG rfl (by decide) v2 ((endG c.es L G k).length + 1) (gFlat (endG c.es L G k) ++ gFlat [⟨x.acc, y, 0⟩]) rfl (HO2.out.alloc _) (some ⟨w2.heap.size, 0, none⟩) 1 1 (gFlat [⟨x.acc, 0, x.coins⟩]) rfl (fun h => by cases h) ?gyyb1 (sl_new _ _ _ _) (oneCell_gFlat _) ?gyyb2 ?gyyb3 ?gyyb4 ?gyyb5)
            case gyyb1 => rfl
            case gyyb2 => unfold maxLen; have := HLN.out; omega
            case gyyb3 => have := HLN.out; omega
            case gyyb4 => have := HB2.out.size; simp only [World.size_alloc]; omega
            intro v3 w3 ho3 hg3
            have hb3 : Below w1.heap.size w1 w3 := (HB2.out.alloc HB2.out.size (.cells #[.int .i64 x.acc, .int .i64 0, .int .u64 x.coins] 86)).grown hg3 (HB2.out.alloc HB2.out.size _).size (fun j hj => (HO2.out.lt j hj).1)
            have HO3 := Lib.hid ho3
            have HB3 := Lib.hid hb3
            clear ho3 hg3 hb3
            go_wp2
            go_roundw
            case rel => exact ⟨k + 1, _, rfl, by omega, by go_num, HB3.out, by rw [HES.out, HG.out, List.length_append, gFlat_append, gFlat_append]; first | exact HO3.out | (rw [← List.append_assoc]; exact HO3.out)⟩
            case measure => simp [intOf]; omega
          · have HG := Lib.hid (show giftE x y = [⟨x.acc, y, 0⟩] ++ [] by unfold giftE; rw [if_pos hy, if_neg hcn])
            have u1 : (y != 0) = true := by simpa using hy
            have u2 : decide (x.coins > 0) = false := decide_eq_false hcn
            clear hy hcn
            go_wp2_with (at_builtin; refine wpList_append_sl rfl _ _ 50 rfl w1.heap.size 86 (.agg #[.int .i64 0, .int .i64 0, .int .u64 0]) 3 24 Try.underlying50 infoG rfl (by decide) v (endG c.es L G k).length (gFlat (endG c.es L G k)) rfl (HOO.out.alloc _) (some ⟨wc.heap.size, 0, none⟩) 1 1 (gFlat [⟨x.acc, y, 0⟩]) rfl (fun h => by cases h) ?gyna1 (sl_new _ _ _ _) (oneCell_gFlat _) ?gyna2 ?gyna3 ?gyna4 ?gyna5)
            case gyna1 => rfl
            case gyna2 => unfold maxLen; have := HLN.out; omega
            case gyna3 => have := HLN.out; omega
            case gyna4 => have := HBW.out.size; simp only [World.size_alloc]; omega
            intro v2 w2 ho2 hg2
            have hb2 : Below w1.heap.size w1 w2 := (HBW.out.alloc HBW.out.size (.cells #[.int .i64 x.acc, .int .i64 y, .int .u64 0] 86)).grown hg2 (HBW.out.alloc HBW.out.size _).size (fun j hj => (HOO.out.lt j hj).1)
            have HO2 := Lib.hid ho2
            have HB2 := Lib.hid hb2
            have q2 := hg2.cell (below_cell ((Below.refl wc.heap.size wc).alloc (Nat.le_refl _) (.cells #[.int .i64 x.acc, .int .i64 y, .int .u64 0] 86)) p2) HNE.out
            clear ho2 hg2 hb2
            go_wp2
            go_roundw
            case rel => exact ⟨k + 1, _, rfl, by omega, by go_num, HB2.out, by rw [HES.out, HG.out, List.length_append, gFlat_append]; simpa [gFlat] using HO2.out⟩
            case measure => simp [intOf]; omega
end Go.Proofs.Ytpikmcapnmdmbaa
