/-
  Layer 22: the statements' copies of entries and contracts, with a mark behind their lists.
-/
import Derived.Test.YtpikmcapnmdmbaaVa
namespace Go.Proofs.Ytpikmcapnmdmbaa
open Go.RowKit Go.K
set_option linter.unusedVariables false
set_option linter.unusedSimpArgs false
structure MarkE (B : Nat) (W : World) (x : Ent) : Prop where
  row : W.ownsRow B 3 1 (.slice x.wa (x.ws.length + 1) x.wc) (x.ws.length + 1) (vI (x.ws ++ [-77]))
  mx : x.ws.length ≤ 17592186043904
  wf : Wf x.ws
  iw : (Lit.int .i64 x.item).wf = true
  cw : (Lit.int .u64 x.coins).wf = true
  pw : (Lit.int .u64 x.price).wf = true
theorem MarkE.at' {B : Nat} {W : World} {x : Ent} (h : MarkE B W x) : ∃ g, x.wa = some ⟨g, 0, none⟩ ∧ B ≤ g ∧ x.ws.length + 1 ≤ x.wc ∧ Sl W x.wa (vI (x.ws ++ [-77])) := by
  obtain ⟨g, cap, cur, hv, hg, hr, hle, _, _, _⟩ := owns_cases h.row (by omega)
  injection hv with h1 h2 h3
  subst h3
  refine ⟨g, h1, hg, hle, ?_⟩
  have hh := h.row
  rw [h1] at hh ⊢
  exact sl_of_owns hh
theorem MarkE.ok {B : Nat} {W : World} {x : Ent} (h : MarkE B W x) : EntOk W x := by
  obtain ⟨g, h1, hg, hle, hs⟩ := h.at'
  refine ⟨?_, by omega, h.mx, (fun e => by rw [h1] at e; cases e), h.wf, h.iw, h.cw, h.pw⟩
  intro hne
  obtain ⟨b, off, he, hc⟩ := hs (vI_ne (k := 0) (by simp))
  refine ⟨b, off, he, fun i hi => ?_⟩
  rw [vI_length] at hi
  rw [hc i (by rw [vI_length, List.length_append]; omega), vI_append, List.getElem?_append_left (by rw [vI_length]; exact hi)]
theorem MarkE.kept {B : Nat} {W W' : World} {x : Ent} (h : MarkE B W x) (hb : Below W.heap.size W W') : MarkE B W' x := ⟨owns_below (B := 0) h.row hb, h.mx, h.wf, h.iw, h.cw, h.pw⟩
set_option maxRecDepth 100000 in
set_option maxHeartbeats 2000000 in
theorem twinEntry_any (x : Ent) (w : World) (hx : EntOk w x) :
    Calls Try.prog 35 #[x.agg] w fun r w' => ∃ x', r = .returned (Ent.agg x') ∧ x'.d = x.d ∧ MarkE w.heap.size w' x' ∧ Below w.heap.size w w' := by
  obtain ⟨xa, xi, xc, xp, xw, xk, xs⟩ := x
  have hm : xs.length ≤ 17592186043904 := hx.mx
  have HX := Lib.hid hx.sl
  have HN := Lib.hid hx.nil
  have HWF := Lib.hid (And.intro hx.wf (And.intro hx.iw (And.intro hx.cw hx.pw)))
  unfold Ent.agg
  clear hx
  go_enter Try.func35, Try.ntmps35
  have HB := Lib.hid (((Below.refl w.heap.size w).alloc (Nat.le_refl _) (.cells #[.int .i64 xa, .int .i64 xi, .int .u64 xc, .int .u64 xp, .slice xw xs.length xk] 48)).alloc (by simp) (.cells #[.int .i64 0, .int .i64 0, .int .u64 0, .int .u64 0, .slice none 0 0] 48))
  go_wp2_with (at_builtin; refine wpList_append_sl rfl _ _ 22 rfl (w.heap.size + 2) 3 (.int .i64 0) 1 8 Try.underlying22 infoI rfl (by decide) (.slice none 0 0) 0 [] rfl (World.ownsRow_nil _ _ _ _) xw xs.length xk (vI xs) rfl HN.out ?a1 (HX.out.kept HB.out) (oneCell_vI _) ?a2 ?a3 (by simp) ?a5)
  case a1 => exact vI_length _
  case a2 => unfold maxLen; omega
  case a3 => omega
  intro v1 w1 ho hg
  have r1 : w1.heap[w.heap.size]? = some (.cells #[.int .i64 xa, .int .i64 xi, .int .u64 xc, .int .u64 xp, .slice xw xs.length xk] 48) := row_past (alloc_old (alloc_at rfl)) hg (fun h => by cases h)
  have r2 : w1.heap[w.heap.size + 1]? = some (.cells #[.int .i64 0, .int .i64 0, .int .u64 0, .int .u64 0, .slice none 0 0] 48) := row_past (alloc_at (by simp)) hg (fun h => by cases h)
  have HB1 := Lib.hid (HB.out.grown hg HB.out.size (fun k hk => by cases hk))
  have HO1 := Lib.hid ho
  have HS1 := Lib.hid hg.size
  clear ho hg
  go_wp2_with (at_builtin; refine wpList_append_sl rfl _ _ 22 rfl (w.heap.size + 2) 3 (.int .i64 0) 1 8 Try.underlying22 infoI rfl (by decide) v1 _ (vI xs) rfl (by simpa using HO1.out.alloc _) (some ⟨w1.heap.size, 0, none⟩) 1 1 (vI [-77]) rfl (fun h => by cases h) ?b1 (sl_new _ _ _ _) (oneCell_vI _) ?b2 ?b3 ?b4 ?b5)
  case b1 => rfl
  case b2 => unfold maxLen; omega
  case b3 => omega
  case b4 => have := HS1.out; simp at this ⊢; omega
  intro v2 w2 ho hg
  obtain ⟨g, cap, cur, rfl, hge, hrow, hle, hcm, hsz, htk⟩ := owns_cases ho (by omega)
  have HO2 := Lib.hid ho
  have HR2 := Lib.hid hrow
  have HG2 := Lib.hid hge
  have q1 : w2.heap[w.heap.size]? = some (.cells #[.int .i64 xa, .int .i64 xi, .int .u64 xc, .int .u64 xp, .slice xw xs.length xk] 48) := row_past (alloc_old r1) hg (fun h => by have := (HO1.out.lt _ h.symm).1; omega)
  have q2 : w2.heap[w.heap.size + 1]? = some (.cells #[.int .i64 0, .int .i64 0, .int .u64 0, .int .u64 0, .slice none 0 0] 48) := row_past (alloc_old r2) hg (fun h => by have := (HO1.out.lt _ h.symm).1; omega)
  have HB2 := Lib.hid ((HB1.out.alloc HB1.out.size _).grown hg (HB1.out.alloc HB1.out.size _).size (fun k hk => by have := (HO1.out.lt k hk).1; omega))
  clear ho hg r1 r2 hrow htk hge hcm hsz
  go_wp2_with (first
    | (refine wpList_store_lit 22 w.heap.size 4 #[.int .i64 xa, .int .i64 xi, .int .u64 xc, .int .u64 xp, .slice (some ⟨g, 0, none⟩) xs.length cap] (.slice (some ⟨g, 0, none⟩) xs.length cap) q1 szL (Nat.le_of_ble_eq_true rfl) rfl rfl (by rfl) (by rfl) ?_; intro w3 hp3; obtain ⟨e0, e1, e2, e3, e4⟩ := cells5 hp3.at'; have s2 := hp3.row q2 (by omega); have s1 := hp3.at')
    | (refine wpList_store_lit 48 (w.heap.size + 1) 0 #[.int .i64 xa, .int .i64 xi, .int .u64 xc, .int .u64 xp, .slice (some ⟨g, 0, none⟩) xs.length cap] (.agg #[.int .i64 xa, .int .i64 xi, .int .u64 xc, .int .u64 xp, .slice (some ⟨g, 0, none⟩) xs.length cap]) s2 szE (Nat.le_of_ble_eq_true rfl) rfl rfl (by rfl) (by rfl) ?_; intro w4 hp4; clear e0 e1 e2 e3 e4; have HP := Lib.hid (And.intro hp3 hp4); clear hp3 hp4; obtain ⟨e0, e1, e2, e3, e4⟩ := cells5 HP.out.2.at'))
  obtain ⟨hp3, hp4⟩ := HP.out
  have hgg := HG2.out
  have HB3 := hp3.below HB2.out HB2.out.size (Nat.le_refl _)
  have HB4 := hp4.below HB3 HB3.size (by omega)
  have HO3 := HO2.out.kept hp3.grown (.inr (by simp [Value.ownBlock]; omega))
  have HO4 := HO3.kept hp4.grown (.inr (by simp [Value.ownBlock]; omega))
  refine bodyPost_ret (results_cell_row Try.results35 _ _ (w.heap.size + 1) 48 _ _ _ rfl hp4.at' Try.underlying48 rfl szE) rfl ⟨⟨xa, xi, xc, xp, some ⟨g, 0, none⟩, cap, xs⟩, rfl, rfl, ⟨owns_base (by rw [vI_append]; exact HO4) (by omega), hm, HWF.out.1, HWF.out.2.1, HWF.out.2.2.1, HWF.out.2.2.2⟩, HB4⟩
theorem oneCell_eFlat (l : List Ent) : ∀ u ∈ eFlat l, u.oneCell' = true := by
  intro u hu
  obtain ⟨g, _, hg⟩ := List.mem_flatMap.1 hu
  simp only [Ent.cells, List.mem_cons, List.not_mem_nil, or_false] at hg
  rcases hg with rfl | rfl | rfl | rfl | rfl <;> rfl
theorem owns_apart {W : World} {B B' : Nat} {e e' : TypeId} {s s' n n' : Nat} {v v' : Value} {xs xs' : List Value} (h : W.ownsRow B e s v n xs) (h' : W.ownsRow B' e' s' v' n' xs') (hne : e ≠ e') : v.ownBlock = none ∨ v.ownBlock ≠ v'.ownBlock := by
  rcases h.2 with ⟨rfl, _⟩ | ⟨g, cap, cur, rfl, _, hr, _⟩
  · exact .inl rfl
  · refine .inr fun he => ?_
    rcases h'.2 with ⟨rfl, _⟩ | ⟨g', cap', cur', rfl, _, hr', _⟩
    · cases he
    · simp only [Value.ownBlock, Option.some.injEq] at he
      subst he
      rw [hr] at hr'
      injection hr' with h1
      injection h1 with _ h2
      exact hne h2
def mk77 : Ent := ⟨-77, 0, 0, 0, none, 0, []⟩
structure MarkC (B : Nat) (W : World) (l : Con) : Prop where
  row : W.ownsRow B 48 5 (.slice l.ea (l.es.length + 1) l.ec) (l.es.length + 1) (eFlat (l.es ++ [mk77]))
  ents : ∀ e ∈ l.es, MarkE B W e
  mx : l.es.length ≤ 2513169434843
theorem MarkC.at' {B : Nat} {W : World} {x : Con} (h : MarkC B W x) : ∃ g, x.ea = some ⟨g, 0, none⟩ ∧ B ≤ g ∧ x.es.length + 1 ≤ x.ec ∧ Sl W x.ea (eFlat (x.es ++ [mk77])) := by
  obtain ⟨g, cap, cur, hv, hg, hr, hle, _, _, _⟩ := owns_cases h.row (by omega)
  injection hv with h1 h2 h3
  subst h3
  refine ⟨g, h1, hg, hle, ?_⟩
  have hh := h.row
  rw [h1] at hh ⊢
  exact sl_of_owns hh
theorem MarkC.ok {B : Nat} {W : World} {x : Con} (h : MarkC B W x) : ConOk W x := by
  obtain ⟨g, h1, hg, hle, hs⟩ := h.at'
  refine ⟨?_, fun e he => (h.ents e he).ok, by omega, h.mx, fun e => by rw [h1] at e; cases e⟩
  intro hne
  obtain ⟨b, off, he, hc⟩ := hs (fun e => hne (by rw [eFlat_append] at e; exact (List.append_eq_nil_iff.1 e).1))
  refine ⟨b, off, he, fun i hi => ?_⟩
  rw [hc i (by rw [eFlat_append, List.length_append]; omega), eFlat_append, List.getElem?_append_left hi]
theorem MarkE.base {B B' : Nat} {W : World} {x : Ent} (h : MarkE B W x) (hb : B' ≤ B) : MarkE B' W x := ⟨owns_base h.row hb, h.mx, h.wf, h.iw, h.cw, h.pw⟩
theorem MarkC.kept {B : Nat} {W W' : World} {x : Con} (h : MarkC B W x) (hb : Below W.heap.size W W') : MarkC B W' x := ⟨owns_below (B := 0) h.row hb, fun e he => (h.ents e he).kept hb, h.mx⟩
theorem MarkE.grown {B B' : Nat} {W W' : World} {x : Ent} {v : Value} {n : Nat} {xs : List Value} (h : MarkE B W x) (ho : W.ownsRow B' 48 5 v n xs) (hg : W.grownBy W' v.ownBlock) : MarkE B W' x :=
  ⟨h.row.kept hg (owns_apart h.row ho (by decide)), h.mx, h.wf, h.iw, h.cw, h.pw⟩
set_option maxRecDepth 100000 in
set_option maxHeartbeats 4000000 in
theorem twin_any (c : Con) (w : World) (hc : ConOk w c) :
    Calls Try.prog 29 #[c.agg] w fun r w' => ∃ l, r = .returned (Con.agg l) ∧ l.d = c.d ∧ MarkC w.heap.size w' l ∧ Below w.heap.size w w' := by
  have HC := Lib.hid hc
  clear hc
  obtain ⟨n, k, b, d, t, wn, p, r, s, o, ea, ec, es⟩ := c
  unfold Con.agg
  have hm : es.length ≤ 2513169434843 := HC.out.mx
  simp only
  go_enter Try.func29, Try.ntmps29
  have HB := Lib.hid (((Below.refl w.heap.size w).alloc (Nat.le_refl _) (.cells #[.int .i64 n, .int .i64 k, .int .i64 b, .int .i64 d, .int .i64 t, .int .i64 wn, .int .u64 p, .int .u64 r, .int .u64 s, .int .i64 o, .slice ea es.length ec] 45)).alloc (by simp) (.cells #[.int .i64 0, .int .i64 0, .int .i64 0, .int .i64 0, .int .i64 0, .int .i64 0, .int .u64 0, .int .u64 0, .int .u64 0, .int .i64 0, .slice none 0 0] 45))
  go_wp2
  go_loopw [3, 4] (fun v' i wr => ∃ (j : Nat) (v : Value) (ls : List Ent), v = v' ∧ j ≤ es.length ∧ i = .int .i64 j ∧ ls.length = j ∧ ls.map Ent.d = (es.take j).map Ent.d ∧ Below w.heap.size w wr ∧
      wr.heap[w.heap.size]? = some (.cells #[.int .i64 n, .int .i64 k, .int .i64 b, .int .i64 d, .int .i64 t, .int .i64 wn, .int .u64 p, .int .u64 r, .int .u64 s, .int .i64 o, .slice ea es.length ec] 45) ∧
      wr.heap[w.heap.size + 1]? = some (.cells #[.int .i64 0, .int .i64 0, .int .i64 0, .int .i64 0, .int .i64 0, .int .i64 0, .int .u64 0, .int .u64 0, .int .u64 0, .int .i64 0, .slice none 0 0] 45) ∧
      wr.ownsRow (w.heap.size + 2) 48 5 v j (eFlat ls) ∧ ∀ e ∈ ls, MarkE (w.heap.size + 2) wr e) (fun _ i _ => es.length - (intOf i).toNat)
  case atStart => exact ⟨0, _, [], rfl, by omega, rfl, rfl, rfl, HB.out, alloc_old (alloc_at rfl), alloc_at (by simp), World.ownsRow_nil _ _ _ _, fun e he => by cases he⟩
  case round =>
    clear HB
    obtain ⟨j, v, ls, hv, hj, rfl, hll, hld, hb, hr1, hr2, ho, hme⟩ := hrel
    subst hv
    have HB := Lib.hid hb
    have HR1 := Lib.hid hr1
    have HR2 := Lib.hid hr2
    have HO := Lib.hid ho
    have HM := Lib.hid hme
    have HLL := Lib.hid hll
    have HLD := Lib.hid hld
    have z1 : wr.cell? ⟨w.heap.size, 10, none⟩ = some (.slice ea es.length ec) := by rw [cell_of_row _ _ _ _ _ _ hr1]; rfl
    clear hb hr1 hr2 ho hme hll hld
    by_cases hlt : j < es.length
    · have t0 : decide ((j : Int) < (es.length : Int)) = true := by simp; omega
      have i1 : (j : Int) < (es.length : Int) := by omega
      obtain ⟨ob, oo, hea, f0, f1, f2, f3, f4⟩ := (HC.out.kept HB.out).ent j hlt
      simp only at hea f0 f1 f2 f3 f4
      subst hea
      have HK := Lib.hid (twinEntry_any es[j] wr ((HC.out.ents _ (List.getElem_mem hlt)).kept HB.out))
      have HD := Lib.hid (show (es.take (j + 1)).map Ent.d = (es.take j).map Ent.d ++ [es[j].d] by rw [List.take_succ_eq_append_getElem hlt, List.map_append]; rfl)
      have B3 := Lib.hid (show w.heap.size + 2 ≤ wr.heap.size from lt_row HR2.out)
      generalize es[j] = x at *
      obtain ⟨xa, xi, xc, xp, xw, xk, xs⟩ := x
      unfold Ent.agg at HK
      simp only at HK f0 f1 f2 f3 f4
      go_wp2_with (first
        | (go_at_call 35; refine HK.out.mono ?_; rintro e w1 ⟨⟨ya, yi, yc, yp, yw, yk, ys⟩, rfl, hyd, hym, hb1⟩; simp only)
        | (at_builtin; refine wpList_append_sl rfl _ _ 43 rfl (w.heap.size + 2) 48 (.agg #[.int .i64 0, .int .i64 0, .int .u64 0, .int .u64 0, .slice none 0 0]) 5 56 Try.underlying43 infoE rfl (by decide) v j (eFlat ls) rfl ((owns_below (B := 0) HO.out hb1).alloc _) (some ⟨w1.heap.size, 0, none⟩) 1 1 (eFlat [⟨ya, yi, yc, yp, yw, yk, ys⟩]) rfl (fun h => by cases h) ?a1 (sl_new _ _ _ _) (oneCell_eFlat _) ?a2 ?a3 ?a4 ?a5))
      case a1 => rfl
      case a2 => unfold maxLen; omega
      case a3 => omega
      case a4 => have := hb1.size; have := B3.out; simp only [World.size_alloc]; omega
      intro v2 w2 ho2 hg2
      have ho1 := (owns_below (B := 0) HO.out hb1).alloc (.cells #[.int .i64 ya, .int .i64 yi, .int .u64 yc, .int .u64 yp, .slice yw ys.length yk] 48)
      have hbz := (Below.refl w1.heap.size w1).alloc (Nat.le_refl _) (.cells #[.int .i64 ya, .int .i64 yi, .int .u64 yc, .int .u64 yp, .slice yw ys.length yk] 48)
      have hbl : Below w.heap.size w w1 := HB.out.trans (hb1.mono HB.out.size)
      have HB2 := Lib.hid ((hbl.alloc hbl.size (.cells #[.int .i64 ya, .int .i64 yi, .int .u64 yc, .int .u64 yp, .slice yw ys.length yk] 48)).grown hg2 (hbl.alloc hbl.size _).size (fun k hk => by have := (ho1.lt k hk).1; omega))
      have HA := Lib.hid (row_past (alloc_old (row_kept HR1.out hb1)) hg2 (fun h => by have := (ho1.lt _ h.symm).1; omega))
      have HZ := Lib.hid (row_past (alloc_old (row_kept HR2.out hb1)) hg2 (fun h => by have := (ho1.lt _ h.symm).1; omega))
      have HO2 := Lib.hid ho2
      have HM2 := Lib.hid (show ∀ e ∈ ls ++ [⟨ya, yi, yc, yp, yw, yk, ys⟩], MarkE (w.heap.size + 2) w2 e from fun e he => by
        rcases List.mem_append.1 he with h | h
        · exact (((HM.out e h).kept hb1).kept hbz).grown ho1 hg2
        · rw [List.mem_singleton] at h
          subst h
          exact ((hym.base B3.out).kept hbz).grown ho1 hg2)
      have HYD := Lib.hid hyd
      clear ho2 hg2 hb1 ho1 hbz hbl hym hyd
      go_wp2
      go_roundw
      case rel => exact ⟨j + 1, _, ls ++ [⟨ya, yi, yc, yp, yw, yk, ys⟩], rfl, by omega, by go_num, by rw [List.length_append, HLL.out]; rfl, by rw [HD.out, List.map_append, HLD.out, List.map_cons, List.map_nil, HYD.out], HB2.out, HA.out, HZ.out, by rw [eFlat_append]; exact HO2.out, HM2.out⟩
      case measure => simp [intOf]; omega
    · have t0 : decide ((j : Int) < (es.length : Int)) = false := by simp; omega
      have hje : j = es.length := by omega
      have HDD := Lib.hid (show ls.map Ent.d = es.map Ent.d by rw [HLD.out, hje, List.take_length])
      have HLE := Lib.hid (show ls.length = es.length by rw [HLL.out, hje])
      have HO' := Lib.hid (show wr.ownsRow (w.heap.size + 2) 48 5 v es.length (eFlat ls) from hje ▸ HO.out)
      clear HO HLL HLD HC hje
      have B3 := Lib.hid (show w.heap.size + 2 ≤ wr.heap.size from lt_row HR2.out)
      go_wp2_with (at_builtin; refine wpList_append_sl rfl _ _ 43 rfl (w.heap.size + 2) 48 (.agg #[.int .i64 0, .int .i64 0, .int .u64 0, .int .u64 0, .slice none 0 0]) 5 56 Try.underlying43 infoE rfl (by decide) v es.length (eFlat ls) rfl (HO'.out.alloc _) (some ⟨wr.heap.size, 0, none⟩) 1 1 (eFlat [mk77]) rfl (fun h => by cases h) ?b1 (sl_new _ _ _ _) (oneCell_eFlat _) ?b2 ?b3 ?b4 ?b5)
      case b1 => rfl
      case b2 => unfold maxLen; omega
      case b3 => omega
      case b4 => have := B3.out; simp only [World.size_alloc]; omega
      intro v2 w2 ho2 hg2
      have ho1 := HO'.out.alloc (.cells #[.int .i64 (-77), .int .i64 0, .int .u64 0, .int .u64 0, .slice none 0 0] 48)
      have hbz := (Below.refl wr.heap.size wr).alloc (Nat.le_refl _) (.cells #[.int .i64 (-77), .int .i64 0, .int .u64 0, .int .u64 0, .slice none 0 0] 48)
      have HB2 := Lib.hid ((HB.out.alloc HB.out.size (.cells #[.int .i64 (-77), .int .i64 0, .int .u64 0, .int .u64 0, .slice none 0 0] 48)).grown hg2 (HB.out.alloc HB.out.size _).size (fun k hk => by have := (ho1.lt k hk).1; omega))
      have q1 := row_past (alloc_old HR1.out) hg2 (fun h => by have := (ho1.lt _ h.symm).1; omega)
      have q2 := row_past (alloc_old HR2.out) hg2 (fun h => by have := (ho1.lt _ h.symm).1; omega)
      have HM2 := Lib.hid (show ∀ e ∈ ls, MarkE (w.heap.size + 2) w2 e from fun e he => ((HM.out e he).kept hbz).grown ho1 hg2)
      obtain ⟨g, cap, cur, rfl, hge, hrow, hle, hcm, hsz, htk⟩ := owns_cases ho2 (by omega)
      have HO2 := Lib.hid ho2
      have HG2 := Lib.hid hge
      obtain ⟨e0, e1, e2, e3, e4, e5, e6, e7, e8, e9, e10⟩ := cells11 q1
      clear ho2 hg2 ho1 hbz hrow htk hge hcm hsz HR1 HR2 HM HB HO'
      go_wp2_with (first
        | (refine wpList_store_lit 43 w.heap.size 10 #[.int .i64 n, .int .i64 k, .int .i64 b, .int .i64 d, .int .i64 t, .int .i64 wn, .int .u64 p, .int .u64 r, .int .u64 s, .int .i64 o, .slice (some ⟨g, 0, none⟩) es.length cap] (.slice (some ⟨g, 0, none⟩) es.length cap) q1 szEs (Nat.le_of_ble_eq_true rfl) rfl rfl (by rfl) (by rfl) ?_; intro w3 hp3; clear e0 e1 e2 e3 e4 e5 e6 e7 e8 e9 e10; obtain ⟨e0, e1, e2, e3, e4, e5, e6, e7, e8, e9, e10⟩ := cells11 hp3.at'; have s2 := hp3.row q2 (by omega); have s1 := hp3.at')
        | (refine wpList_store_lit 45 (w.heap.size + 1) 0 #[.int .i64 n, .int .i64 k, .int .i64 b, .int .i64 d, .int .i64 t, .int .i64 wn, .int .u64 p, .int .u64 r, .int .u64 s, .int .i64 o, .slice (some ⟨g, 0, none⟩) es.length cap] (.agg #[.int .i64 n, .int .i64 k, .int .i64 b, .int .i64 d, .int .i64 t, .int .i64 wn, .int .u64 p, .int .u64 r, .int .u64 s, .int .i64 o, .slice (some ⟨g, 0, none⟩) es.length cap]) s2 szC (Nat.le_of_ble_eq_true rfl) rfl rfl (by rfl) (by rfl) ?_; intro w4 hp4))
      have hgg := HG2.out
      have HB3 := hp3.below HB2.out HB2.out.size (Nat.le_refl _)
      have HB4 := hp4.below HB3 HB3.size (by omega)
      have HO4 := (HO2.out.kept hp3.grown (.inr (by simp [Value.ownBlock]; omega))).kept hp4.grown (.inr (by simp [Value.ownBlock]; omega))
      have HM4 : ∀ e ∈ ls, MarkE w.heap.size w4 e := fun e he => by
        have h := HM2.out e he
        obtain ⟨gw, hw, hg0, _, _⟩ := h.at'
        refine ⟨owns_base ((h.row.kept hp3.grown (.inr ?_)).kept hp4.grown (.inr ?_)) (by omega), h.mx, h.wf, h.iw, h.cw, h.pw⟩ <;> (rw [hw]; simp [Value.ownBlock]; omega)
      have hh := HLE.out
      refine bodyPost_ret (results_cell_row Try.results29 _ _ (w.heap.size + 1) 45 _ _ _ rfl hp4.at' Try.underlying45 rfl szC) rfl ⟨⟨n, k, b, d, t, wn, p, r, s, o, some ⟨g, 0, none⟩, cap, ls⟩, by rw [hh], ?_, ⟨?_, HM4, by simp only [hh]; exact hm⟩, HB4⟩
      · show (_, _, ls.map Ent.d) = (_, _, es.map Ent.d)
        rw [HDD.out]
      · simp only [hh]
        rw [eFlat_append]
        exact owns_base HO4 (by omega)
end Go.Proofs.Ytpikmcapnmdmbaa
