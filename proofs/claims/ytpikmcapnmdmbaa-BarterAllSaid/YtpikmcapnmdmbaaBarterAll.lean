/-
  Of whatever contract, what its end gives out is just what its entries hold, item by item and coin by coin.
  No condition beyond the statement's own.
-/
import Derived.Test.YtpikmcapnmdmbaaVf
import Derived.Test.YtpikmcapnmdmbaaYb
import Derived.Test.YtpikmcapnmdmbaaWo
namespace Go.Proofs.Ytpikmcapnmdmbaa.lawBarterAll
open Go.RowKit Go.K Go.Maps Go.ChangeShapes Go.WideShapes Go.ChangeAt
set_option linter.unusedVariables false
set_option linter.unusedSimpArgs false
theorem con_d {c l : Con} (h : l.d = c.d) : l.es.map Ent.d = c.es.map Ent.d := by
  simp only [Con.d, Prod.mk.injEq] at h
  exact h.2.2
theorem map_item {a b : List Ent} (h : a.map Ent.d = b.map Ent.d) : a.map Ent.item = b.map Ent.item := by
  have := congrArg (List.map fun x : Int × Int × Int × Int × List Int => x.2.1) h
  simpa [List.map_map, Function.comp_def, Ent.d] using this
theorem map_coins {a b : List Ent} (h : a.map Ent.d = b.map Ent.d) : a.map Ent.coins = b.map Ent.coins := by
  have := congrArg (List.map fun x : Int × Int × Int × Int × List Int => x.2.2.1) h
  simpa [List.map_map, Function.comp_def, Ent.d] using this
theorem endG_wf (es : List Ent) (L : List Int) (G : Nat → Int) (hc : ∀ e ∈ es, (Lit.int .u64 e.coins).wf = true) : ∀ k, ∀ g ∈ endG es L G k, (Lit.int .u64 g.coins).wf = true
  | 0, g, hg => by cases hg
  | k + 1, g, hg => by
    rw [endG, List.mem_append] at hg
    rcases hg with hg | hg
    · exact endG_wf es L G hc k g hg
    · cases he : es[k]? with
      | none => rw [he] at hg; cases hg
      | some e =>
        rw [he] at hg
        have hm := hc e (List.mem_of_getElem? he)
        unfold giftE at hg
        rw [List.mem_append] at hg
        rcases hg with hg | hg
        · split at hg
          · rw [List.mem_singleton] at hg; subst hg; rfl
          · cases hg
        · split at hg
          · rw [List.mem_singleton] at hg; subst hg; exact hm
          · cases hg
set_option maxRecDepth 100000 in
set_option maxHeartbeats 4000000 in
theorem walk (c : Con) (w : World) (hc : ConOk w c) : Calls Try.prog 7 #[c.agg] w fun r w' => r = .returned (.bool true) ∧ Below w.heap.size w w' := by
  have HC := Lib.hid hc
  have HK26 := Lib.hid (fun V (h : Below w.heap.size w V) => lot_any c ⟨0, 0, 0, 0, none, 0, []⟩ V (hc.kept h) ⟨Sl.nil _ _, Nat.le_refl _, Nat.zero_le _, (fun _ => ⟨rfl, rfl⟩), (fun x hx => by cases hx), rfl, rfl, rfl⟩)
  have HK29 := Lib.hid (fun V (h : Below w.heap.size w V) => twin_any c V (hc.kept h))
  have HK28 := Lib.hid (fun (l : Con) V (h : ConOk V l) (h2 : l.es.length ≤ 3000) => end_any l V h h2)
  have HK27 := Lib.hid (fun (ga : Option Addr) (gc : Nat) (gs : List Gi) V (h : Below w.heap.size w V) (hn : c.es.length ≤ 3000) (hg : Sl V ga (gFlat gs)) (hgn : gs.length ≤ 6000) (hgw : ∀ g ∈ gs, (Lit.int .u64 g.coins).wf = true)
    (hp : (nz (gs.map Gi.item)).Perm (nz (c.es.map Ent.item))) (hs : sumC (gs.map Gi.coins) = sumC (c.es.map Ent.coins)) (hwh : ∀ g ∈ gs, (g.item = 0 ∧ g.coins ≠ 0) ∨ (g.item ≠ 0 ∧ g.coins = 0)) => balance_true c ga gc gs V (hc.kept h) hn hg hgn hgw hp hs hwh)
  clear hc
  have HBX := Lib.hid (show Box (w.alloc (.cells #[.int .i64 c.num, .int .i64 c.kind, .int .i64 c.by', .int .i64 c.dl, .int .i64 c.to', .int .i64 c.want, .int .u64 c.price, .int .u64 c.reserve, .int .u64 c.step, .int .i64 c.of', .slice c.ea c.es.length c.ec] 45)) w.heap.size c from alloc_at rfl)
  have HB0 := Lib.hid ((Below.refl w.heap.size w).alloc (Nat.le_refl _) (.cells #[.int .i64 c.num, .int .i64 c.kind, .int .i64 c.by', .int .i64 c.dl, .int .i64 c.to', .int .i64 c.want, .int .u64 c.price, .int .u64 c.reserve, .int .u64 c.step, .int .i64 c.of', .slice c.ea c.es.length c.ec] 45))
  unfold Con.agg at *
  unfold Ent.agg at HK26
  simp only [List.length_nil] at HK26
  go_enter Try.func7, Try.ntmps7
  go_wp2_with fail
  refine (awake_any _).mono ?_
  rintro r0 w1 ⟨rfl, hb⟩
  have HB1 := Lib.hid (HB0.out.trans (hb.mono HB0.out.size))
  have R1 := Lib.hid (HBX.out.kept hb)
  clear hb
  obtain ⟨p0, p1, p2, p3, p4, p5, p6, p7, p8, p9, p10⟩ := R1.out.cells
  go_wp2_with fail
  refine (HK26.out _ HB1.out).mono ?_
  rintro r0 w2 ⟨⟨b, rfl, hbn⟩, hb⟩
  have HB2 := Lib.hid (HB1.out.trans (hb.mono HB1.out.size))
  have R2 := Lib.hid (R1.out.kept hb)
  clear hb p0 p1 p2 p3 p4 p5 p6 p7 p8 p9 p10
  cases b with
  | true =>
    go_wp2
    go_ret
    exact ⟨rfl, HB2.out⟩
  | false =>
    have hlen := hbn rfl
    have HLE := Lib.hid (show c.es.length ≤ 3000 by omega)
    clear hbn hlen
    obtain ⟨p0, p1, p2, p3, p4, p5, p6, p7, p8, p9, p10⟩ := R2.out.cells
    have hd := Below.refl w2.heap.size w2
    have hw1 : Below w.heap.size w w2.drew := below_drawn HB2.out _
    go_wp2
    go_region_held3 (fun V => V.cell? ⟨w.heap.size, 0, none⟩ = some (.int .i64 c.num) ∧ V.cell? ⟨w.heap.size, 1, none⟩ = some (.int .i64 c.kind) ∧ V.cell? ⟨w.heap.size, 2, none⟩ = some (.int .i64 c.by') ∧
        V.cell? ⟨w.heap.size, 3, none⟩ = some (.int .i64 c.dl) ∧ V.cell? ⟨w.heap.size, 4, none⟩ = some (.int .i64 c.to') ∧ V.cell? ⟨w.heap.size, 5, none⟩ = some (.int .i64 c.want) ∧ V.cell? ⟨w.heap.size, 6, none⟩ = some (.int .u64 c.price) ∧
        V.cell? ⟨w.heap.size, 7, none⟩ = some (.int .u64 c.reserve) ∧ V.cell? ⟨w.heap.size, 8, none⟩ = some (.int .u64 c.step) ∧ V.cell? ⟨w.heap.size, 9, none⟩ = some (.int .i64 c.of') ∧ V.cell? ⟨w.heap.size, 10, none⟩ = some (.slice c.ea c.es.length c.ec)) (go_keep)
      ((first
        | (go_at_call 29; (with_reducible refine (HK29.out _ hw1).mono ?_); rintro r1 y1 ⟨l, rfl, hld, hml, hb1⟩
           have hy1 : Below w.heap.size w y1 := hw1.trans (hb1.mono hw1.size)
           have S1 := (Box.kept (show Box w2.drew w.heap.size c from R2.out) hb1); obtain ⟨a0, a1, a2, a3, a4, a5, a6, a7, a8, a9, a10⟩ := S1.cells
           have hes := con_d hld
           have hll : l.es.length ≤ 3000 := (by have := congrArg List.length hes; simp at this; have := HLE.out; omega))
        | (go_at_call 28; (with_reducible refine (HK28.out l y1 hml.ok hll).mono ?_); rintro r2 y2 ⟨v, G, rfl, hgot, hown, hb2⟩
           have hy2 : Below w.heap.size w y2 := hy1.trans (hb2.mono hy1.size)
           have S2 := S1.kept hb2; obtain ⟨b0, b1, b2, b3, b4, b5, b6, b7, b8, b9, b10⟩ := S2.cells
           obtain ⟨ga, gc, rfl, _, hsl, _⟩ := owns_slice hown)
        | (go_at_call 27; (with_reducible refine (HK27.out ga gc _ y2 hy2 HLE.out hsl ?_ ?_ ?_ ?_ ?_).mono ?_)
           · have := endG_len l.es (l.es.map Ent.item) G l.es.length; omega
           · exact endG_wf l.es _ G (fun e he => (hml.ok.ents e he).cw) _
           · rw [endG_items _ _ _ _ (Nat.le_refl _), ← map_item hes]
             have h1 := items_perm (l.es.map Ent.item) _ G (by rw [List.length_map]; exact hgot)
             rw [List.length_map] at h1
             exact h1.filter _
           · rw [endG_coins _ _ _ (fun e he => by obtain ⟨x, hx⟩ := u64_of_wf (hml.ok.ents e he).cw; rw [hx]; exact U64_lo x) _ (Nat.le_refl _), List.take_length, map_coins hes]
           · exact endG_whole l.es _ G _
           rintro r3 y3 ⟨rfl, hb3⟩
           have S3 := S2.kept hb3; obtain ⟨d0, d1, d2, d3, d4, d5, d6, d7, d8, d9, d10⟩ := S3.cells)))
    have HBE := Lib.hid (hy2.trans (hb3.mono hy2.size))
    clear hw1 hy1 hy2 hb1 hb2 hb3 hes hld
    go_wp2
    go_ret
    exact ⟨rfl, HBE.out⟩
theorem own : ownKnob Try.prog.godebug = none := by kernel_rfl
theorem laidOut : laidOutB Try.prog = true := by kernel_rfl
set_option maxRecDepth 100000 in
theorem lifted (os : Os) (started : os.Started) (H : Type) (enc : TypeId × Value → H) :
    ReturnsInHanded {} Try.checked os 7 .any (Rows.barterAllSpec.pre6 enc Try.prog Try.f7 Rows.barterAllRow.domain false) (Rows.barterAllSpec.post enc Try.prog Try.f7 false true false false) := by
  refine returnsInHanded_of_change_sized (C := Try.checked) own started (by kernel_rfl) Try.func7
    (ChangeSpec.witness6 (enc := enc) (C := Try.checked) false ⟨#[], #[.agg #[.int .i64 0, .int .i64 0, .int .i64 0, .int .i64 0, .int .i64 0, .int .i64 0, .int .u64 0, .int .u64 0, .int .u64 0, .int .i64 0, .slice none 0 0]], []⟩ 8 (by kernel_rfl) (by kernel_rfl) (by kernel_rfl) (by kernel_rfl)) ?_
  intro W base args ds gs before hval0 hW hcnd hsz0 _
  have hsz : (DataW.weightsEach Try.prog (Try.f7.params.toList ++ Rows.barterAllSpec.plain.varTypes Try.prog) (ds ++ gs)).all (· ≤ reachBytes) = true := hsz0
  clear hsz0
  have hval : ∀ (j : Nat) t v, Try.f7.params[j]? = some t → args[j]? = some v → Value.okWide Try.prog W .any base t v := hval0
  have hW' := hW
  obtain ⟨p, q, hA0, hV, rfl, hfz, hnd⟩ := hW
  have hA : DataW.TrodAll enc Try.prog W 0 (fun _ => true) true Try.f7.params.toList args.toList ds p := hA0
  rw [Try.params7] at hA hval hsz
  obtain ⟨v0, vs0, d0, ds0, p0, q0, hargs, rfl, rfl, h0, r0⟩ := trodAll_cons hA
  obtain ⟨rfl, rfl, rfl⟩ := trodAll_nil r0
  obtain rfl : args = #[v0] := by cases args; simp_all
  obtain ⟨rfl, rfl⟩ := trodVars_none hV
  have k0 := h0
  have lt0 : ∀ x ∈ p0, x.block < W.heap.size := by obtain ⟨m, hm⟩ := k0; exact DataW.trod_lt m _ _ _ hm
  obtain ⟨c0, rfl, n0⟩ := open_con (hval 0 45 v0 rfl rfl) h0 hsz (j := 0) rfl rfl
  clear hA0 hval0
  refine (walk c0 W n0).mono fun e W' ⟨he, bel⟩ => ?_
  subst he
  exact ⟨_, rfl, _, _, _, [], _, [], hW', trodAll_mk1 (shut_bool Try.underlying4 _), (trodAll_cons_mk (Below.trod laidOut (by kernel_rfl) (of_decide_eq_true (by kernel_rfl)) k0 bel lt0) trodAll_mk0), rfl, bel.frame _, fun h => by cases h⟩
theorem over : Rows.barterAllRow.holds Try.pinned (OpenSpec.ofChange Rows.barterAllSpec) :=
  OpenClaim.holds_of_wide 7 Try.f7 rfl rfl rfl rfl rfl rfl rfl ⟨rfl, rfl, rfl, rfl, rfl⟩ rfl rfl rfl rfl rfl (by kernel_rfl) Try.func7 (by kernel_rfl)
    (of_decide_eq_true (by kernel_rfl)) (by unfold Func.isWrapper; first | (rw [if_pos (by decide +kernel)]; kernel_rfl) | (rw [if_neg (by decide +kernel)]; exact ⟨rfl, rfl⟩))
    (fun os started H enc _ => lifted os started H enc)
theorem proved : Rows.BarterAllSaid := over
#print axioms proved
end Go.Proofs.Ytpikmcapnmdmbaa.lawBarterAll
