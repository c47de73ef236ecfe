/-
  Of whatever contract and entry: what is answered is new memory.
  No condition beyond the statement's own.
-/
import Derived.Test.YtpejcndfplbikaaEd
import Derived.Test.YtpejcndfplbikaaMh
import Derived.Deep.RegionHeld3
namespace Go.Proofs.Ytpejcndfplbikaa.lawAuctionOwn
open Go.RowKit Go.K Go.Maps Go.ChangeShapes Go.WideShapes Go.ChangeAt
set_option linter.unusedVariables false
set_option linter.unusedSimpArgs false
set_option maxRecDepth 100000 in
set_option maxHeartbeats 8000000 in
theorem walk (c : Con) (e : Ent) (w : World) (hc : ConOk w c) (he : EntOk w e) : Calls Try.prog 8 #[c.agg, e.agg] w fun r w' => r = .returned (.bool true) ∧ Below w.heap.size w w' := by
  have HC := Lib.hid hc
  have HE := Lib.hid he
  clear hc he
  unfold Con.agg Ent.agg
  go_enter Try.func8, Try.ntmps8
  go_wp2_with fail
  obtain ⟨w0, hw0⟩ : ∃ W, W = (w.alloc (.cells #[.int .i64 c.num, .int .i64 c.kind, .int .i64 c.by', .int .i64 c.dl, .int .i64 c.to', .int .i64 c.want, .int .u64 c.price, .int .u64 c.reserve, .int .u64 c.step, .int .i64 c.of', .slice c.ea c.es.length c.ec] 25)).alloc (.cells #[.int .i64 e.acc, .int .i64 e.item, .int .u64 e.coins, .int .u64 e.price, .slice e.wa e.ws.length e.wc] 33) := ⟨_, rfl⟩
  have HCB0 := Lib.hid (show Cb w c e w0 by rw [hw0]; exact ⟨((Below.refl _ _).alloc (Nat.le_refl _) _).alloc (by simp) _, alloc_old (alloc_at rfl), alloc_at (by simp)⟩)
  rw [← hw0]
  clear hw0
  refine (known_any w0).mono ?_
  rintro r0 w1 ⟨rfl, hb⟩
  have HC3 := Lib.hid (HCB0.out.kept hb)
  clear hb HCB0
  go_wp2
  refine lend8 rfl (by kernel_rfl) ⟨{ on := 0, ground := .data }, by simp, rfl, rfl⟩ ⟨{ on := 2, ground := .data }, by simp, rfl, rfl⟩ (by simp) w.heap.size (w.heap.size + 1) rfl rfl c e HC3.out.bc HC3.out.be (HC.out.kept HC3.out.bel) (HE.out.kept HC3.out.bel) ?_ (fun _ => undef) rfl
  intro x R2 v1 hP2 k63 q1 k65 q3 q4 q5
  obtain ⟨l4, hx64, hL4⟩ := q1
  obtain ⟨x4, hx66, hX4⟩ := q3
  obtain ⟨hx8, hz8, hr8⟩ := q4
  obtain ⟨hx9, hz9, hr9⟩ := q5
  simp only [putsF, List.foldl_cons, List.foldl_nil, Act.put, List.setIfInBounds_toArray, List.set_cons_zero, List.set_cons_succ, k63, k65, hx64, hx66, hx8, hx9]
  unfold Con.agg Ent.agg
  have HL4 := Lib.hid hL4
  have HX4 := Lib.hid hX4
  have HZ8 := Lib.hid hz8
  have HZ9 := Lib.hid hz9
  have HV1 := Lib.hid (HC3.out.kept hP2.bel)
  have hws := lt_row HC3.out.be
  obtain ⟨rd, hrd⟩ : ∃ r, r = R2 1 := ⟨_, rfl⟩
  obtain ⟨re, hre⟩ : ∃ r, r = R2 3 := ⟨_, rfl⟩
  obtain ⟨gd, hgd⟩ : ∃ r, r = (R2 4).1 := ⟨_, rfl⟩
  obtain ⟨ge, hge⟩ : ∃ r, r = (R2 5).1 := ⟨_, rfl⟩
  have N2 := Lib.hid (show (gd ≠ ge ∧ w.heap.size + 1 < gd ∧ w.heap.size + 1 < ge) ∧ ((gd < rd.1 ∨ rd.2 ≤ gd) ∧ (ge < rd.1 ∨ rd.2 ≤ ge)) ∧ ((gd < re.1 ∨ re.2 ≤ gd) ∧ (ge < re.1 ∨ re.2 ≤ ge)) ∧ (rd.2 ≤ re.1 ∨ re.2 ≤ rd.1) ∧ w.heap.size + 1 < rd.1 ∧ w.heap.size + 1 < re.1 ∧ rd.2 ≤ v1.heap.size ∧ re.2 ≤ v1.heap.size ∧ gd < v1.heap.size ∧ ge < v1.heap.size by
    have d45 := hP2.off 4 5 (by decide) rfl rfl
    have d14 := hP2.off 1 4 (by decide) rfl rfl
    have d15 := hP2.off 1 5 (by decide) rfl rfl
    have d34 := hP2.off 3 4 (by decide) rfl rfl
    have d35 := hP2.off 3 5 (by decide) rfl rfl
    have d13 := hP2.off 1 3 (by decide) rfl rfl
    have i1 := hP2.in' 1 rfl
    have i3 := hP2.in' 3 rfl
    have i4 := hP2.in' 4 rfl
    have i5 := hP2.in' 5 rfl
    rw [hrd, hre, hgd, hge]
    refine ⟨⟨?_, ?_, ?_⟩, ⟨?_, ?_⟩, ⟨?_, ?_⟩, ?_, ?_, ?_, ?_, ?_, ?_, ?_⟩ <;> omega)
  rw [← hrd] at HL4
  rw [← hre] at HX4
  rw [← hgd] at HZ8 ⊢
  rw [← hge] at HZ9 ⊢
  clear hrd hre hgd hge hP2 k63 k65 hx64 hx66 hx8 hx9 hL4 hX4 hz8 hz9 hr8 hr9 hws HC3
  refine wpList_store_lit 25 gd 0 #[.int .i64 l4.num, .int .i64 l4.kind, .int .i64 l4.by', .int .i64 l4.dl, .int .i64 l4.to', .int .i64 l4.want, .int .u64 l4.price, .int .u64 l4.reserve, .int .u64 l4.step, .int .i64 l4.of', .slice l4.ea l4.es.length l4.ec] (.agg #[.int .i64 l4.num, .int .i64 l4.kind, .int .i64 l4.by', .int .i64 l4.dl, .int .i64 l4.to', .int .i64 l4.want, .int .u64 l4.price, .int .u64 l4.reserve, .int .u64 l4.step, .int .i64 l4.of', .slice l4.ea l4.es.length l4.ec]) HZ8.out szC (Nat.le_of_ble_eq_true rfl) rfl rfl (by rfl) (by rfl) ?_
  intro v2 hp4
  refine wpList_store_lit 33 ge 0 #[.int .i64 x4.acc, .int .i64 x4.item, .int .u64 x4.coins, .int .u64 x4.price, .slice x4.wa x4.ws.length x4.wc] (.agg #[.int .i64 x4.acc, .int .i64 x4.item, .int .u64 x4.coins, .int .u64 x4.price, .slice x4.wa x4.ws.length x4.wc]) (hp4.row HZ9.out (fun h => N2.out.1.1 h.symm)) szE (Nat.le_of_ble_eq_true rfl) rfl rfl (by rfl) (by rfl) ?_
  intro v3 hp5
  have HI := Lib.hid (show Ins w c e l4 x4 rd re gd ge v3 by
    obtain ⟨⟨n1, n2, n3⟩, ⟨a1, a2⟩, ⟨b1, b2⟩, _⟩ := N2.out
    have hb2 := hp4.below HV1.out.bel HV1.out.bel.size (by omega)
    exact ⟨⟨hp5.below hb2 hb2.size (by omega), hp5.row (hp4.row HV1.out.bc (by omega)) (by omega), hp5.row (hp4.row HV1.out.be (by omega)) (by omega)⟩, hp5.row hp4.at' n1, hp5.at', (HL4.out.put hp4 a1).put hp5 a2, (HX4.out.put hp4 b1).put hp5 b2⟩)
  have HSZ := Lib.hid (show v3.heap.size = v1.heap.size by rw [hp5.size, hp4.size])
  clear hp4 hp5 HZ8 HZ9 HL4 HX4 HV1
  obtain ⟨B, hBd⟩ : ∃ B, B = v3.heap.size := ⟨_, rfl⟩
  have HBD := Lib.hid hBd
  clear hBd
  have HKJ := Lib.hid (fun V (h : Ins w c e l4 x4 rd re gd ge V) => join_piece2 l4 c x4 e V h.hl.mark.ok h.hx.mark.ok h.hl.d h.hx.d)
  unfold Con.agg Ent.agg JoinP2 at HKJ
  have HGL := Lib.hid (show (joinGs c e).length ≤ 5864062014500 by have := joinGs_le c e; omega)
  generalize joinGs c e = G at HKJ HGL
  generalize hjv : c.joinV' e = jv at HKJ
  have HJV := Lib.hid hjv
  clear hjv
  obtain ⟨a0, a1, a2, a3, a4, a5, a6, a7, a8, a9, a10⟩ := (HI.out.bl).cells
  obtain ⟨ac0, ac1, ac2, ac3, ac4⟩ := cells5 HI.out.bx
  go_wp2_with fail
  refine (HKJ.out _ HI.out).mono ?_
  rintro r11 v4 ⟨d1, ad1, cp1, rfl, hb4, hN1, hg1, hd1, hdis1⟩
  have HI4 := Lib.hid (HI.out.kept hb4)
  have HN1 := Lib.hid (show NewC B v4 d1 by rw [HBD.out]; exact hN1)
  have HR1 := Lib.hid (show Fam B 64 3 v4 [(ad1, G.length, cp1)] by rw [HBD.out]; exact Fam.one (r := (ad1, G.length, cp1)) hg1)
  have HS1 := Lib.hid (own_sl hg1).2
  have HD1 := Lib.hid hd1
  have HX1 := Lib.hid hdis1
  have HB4 := Lib.hid (show B ≤ v4.heap.size by rw [HBD.out]; exact hb4.size)
  clear hb4 hN1 hg1 hd1 hdis1 HI a0 a1 a2 a3 a4 a5 a6 a7 a8 a9 a10 ac0 ac1 ac2 ac3 ac4
  have HA4 := Lib.hid (fun X => (Below.refl v4.heap.size v4).alloc (Nat.le_refl _) X)
  obtain ⟨a0, a1, a2, a3, a4, a5, a6, a7, a8, a9, a10⟩ := HI4.out.bl.cellsA
  have ac0 := fun X => (cells5 (HI4.out.bx.kept (HA4.out X))).1
  have ac1 := fun X => (cells5 (HI4.out.bx.kept (HA4.out X))).2.1
  have ac2 := fun X => (cells5 (HI4.out.bx.kept (HA4.out X))).2.2.1
  have ac3 := fun X => (cells5 (HI4.out.bx.kept (HA4.out X))).2.2.2.1
  have ac4 := fun X => (cells5 (HI4.out.bx.kept (HA4.out X))).2.2.2.2
  go_wp2_with fail
  obtain ⟨V4, hV4⟩ : ∃ V, V = v4.alloc (.cells #[.int .i64 d1.num, .int .i64 d1.kind, .int .i64 d1.by', .int .i64 d1.dl, .int .i64 d1.to', .int .i64 d1.want, .int .u64 d1.price, .int .u64 d1.reserve, .int .u64 d1.step, .int .i64 d1.of', .slice d1.ea d1.es.length d1.ec] 25) := ⟨_, rfl⟩
  have hA4 : Below v4.heap.size v4 V4 := by rw [hV4]; exact (Below.refl _ _).alloc (Nat.le_refl _) _
  have HM1 := Lib.hid (show Box V4 v4.heap.size d1 by rw [hV4]; exact alloc_at rfl)
  have HI5 := Lib.hid (HI4.out.kept hA4)
  have HN1 := Lib.hid (HN1.out.kept hA4)
  have HR1 := Lib.hid (HR1.out.kept hA4)
  have HS1 := Lib.hid (HS1.out.kept hA4)
  have HB4 := Lib.hid (show B ≤ v4.heap.size ∧ v4.heap.size < V4.heap.size from ⟨HB4.out, by rw [hV4]; simp⟩)
  rw [← hV4]
  clear hV4 hA4 HI4 HA4 a0 a1 a2 a3 a4 a5 a6 a7 a8 a9 a10 ac0 ac1 ac2 ac3 ac4
  refine (HKJ.out _ HI5.out).mono ?_
  rintro r12 v5 ⟨d2, ad2, cp2, rfl, hb5, hN2, hg2, hd2, hdis2⟩
  have HI6 := Lib.hid (HI5.out.kept hb5)
  have HM1 := Lib.hid (HM1.out.kept hb5)
  have HN2 := Lib.hid (NewC.base hN2 (show B ≤ V4.heap.size by have := HB4.out; omega))
  have HFW := Lib.hid ((fam_wishes HN1.out HX1.out).append hb5 (fam_wishes hN2 hdis2) (Nat.le_refl _) (by have := HB4.out; omega))
  have HFE := Lib.hid (show Fam B 33 5 v5 [d1.e3, d2.e3] from (Fam.one (r := d1.e3) HN1.out.row).append hb5 (Fam.one (r := d2.e3) hN2.row) (Nat.le_refl _) (by have := HB4.out; omega))
  have HN1 := Lib.hid (HN1.out.kept hb5)
  have HR2 := Lib.hid (show Fam B 64 3 v5 [(ad1, G.length, cp1), (ad2, G.length, cp2)] from HR1.out.append hb5 (Fam.one (r := (ad2, G.length, cp2)) hg2) (Nat.le_refl _) (by have := HB4.out; omega))
  have HS1 := Lib.hid (HS1.out.kept hb5)
  have HS2 := Lib.hid (own_sl hg2).2
  have HDD := Lib.hid (HD1.out.trans hd2.symm)
  have HB5 := Lib.hid hb5.size
  clear hb5 hN2 hg2 hd2 hdis2 HKJ HI5 HR1 HX1
  go_wp2_with fail
  obtain ⟨V5, hV5⟩ : ∃ V, V = v5.alloc (.cells #[.int .i64 d2.num, .int .i64 d2.kind, .int .i64 d2.by', .int .i64 d2.dl, .int .i64 d2.to', .int .i64 d2.want, .int .u64 d2.price, .int .u64 d2.reserve, .int .u64 d2.step, .int .i64 d2.of', .slice d2.ea d2.es.length d2.ec] 25) := ⟨_, rfl⟩
  have hA5 : Below v5.heap.size v5 V5 := by rw [hV5]; exact (Below.refl _ _).alloc (Nat.le_refl _) _
  obtain ⟨m1, hm1⟩ : ∃ m, m = v4.heap.size := ⟨_, rfl⟩
  obtain ⟨m2, hm2⟩ : ∃ m, m = v5.heap.size := ⟨_, rfl⟩
  have HO2 := Lib.hid (show O2 w c e l4 x4 rd re gd ge d1 d2 m1 m2 B [(ad1, G.length, cp1), (ad2, G.length, cp2)] [(ad1, G), (ad2, G)] V5 by
    have h2 : Box V5 v5.heap.size d2 := by rw [hV5]; exact alloc_at rfl
    rw [hm1, hm2]
    refine ⟨⟨HI6.out.kept hA5, HM1.out.kept hA5, h2, HN1.out.kept hA5, HN2.out.kept hA5⟩, HR2.out.kept hA5, HFW.out.kept hA5, HFE.out.kept hA5, fun p hp => ?_, ?_⟩
    · simp only [List.mem_cons, List.not_mem_nil, or_false] at hp
      rcases hp with rfl | rfl
      · exact HS1.out.kept hA5
      · exact HS2.out.kept hA5
    · have := HB4.out; have := HB5.out; have := hA5.size; omega)
  have HMM := Lib.hid (show B ≤ m1 ∧ m1 < m2 ∧ m2 < V5.heap.size by have := HB4.out; have := HB5.out; refine ⟨?_, ?_, ?_⟩; omega; omega; (rw [hm2, hV5]; simp))
  have HBB := Lib.hid (show rd.2 ≤ B ∧ re.2 ≤ B ∧ gd < B ∧ ge < B ∧ w.heap.size + 1 < B by have h1 := N2.out; have h2 := HSZ.out; have h3 := HBD.out; omega)
  rw [← hV5, ← hm1, ← hm2]
  clear hV5 hA5 hm1 hm2 HI6 HM1 HN1 HN2 HR2 HFW HFE HS1 HS2 HB4 HB5 HBD HSZ
  have HK17 := Lib.hid (fun V (h : LentC rd c V l4) => end_piece rd l4 c V h)
  have HK19 := Lib.hid (fun V (h : LentC rd c V l4) => back_piece rd l4 c V h)
  unfold Con.agg at HK17 HK19
  have HLE := Lib.hid (show (endL c.kind c.reserve (c.es.map Ent.d)).length ≤ 5864062014500 by have := endL_le c.kind c.reserve (c.es.map Ent.d); have := HC.out.mx; rw [List.length_map] at *; omega)
  have HLB := Lib.hid (show (backP (c.es.map Ent.d) c.es.length).length ≤ 5864062014500 by have := backP_le (c.es.map Ent.d) c.es.length; have := HC.out.mx; omega)
  generalize endL c.kind c.reserve (c.es.map Ent.d) = eL at *
  generalize backP (c.es.map Ent.d) c.es.length = bL at *
  obtain ⟨sa0, sa1, sa2, sa3, sa4, sa5, sa6, sa7, sa8, sa9, sa10⟩ := (HO2.out.out.ins.bl).cells
  go_wp2
  have hA0 : O2 w c e l4 x4 rd re gd ge d1 d2 m1 m2 B [(ad1, G.length, cp1), (ad2, G.length, cp2)] [(ad1, G), (ad2, G)] V5.drew := HO2.out.kept ((Qt.drewN V5 1).below _)
  go_region_held3 (fun V => V.cell? ⟨gd, 0, none⟩ = some (.int .i64 l4.num) ∧ V.cell? ⟨gd, 1, none⟩ = some (.int .i64 l4.kind) ∧ V.cell? ⟨gd, 2, none⟩ = some (.int .i64 l4.by') ∧ V.cell? ⟨gd, 3, none⟩ = some (.int .i64 l4.dl) ∧ V.cell? ⟨gd, 4, none⟩ = some (.int .i64 l4.to') ∧ V.cell? ⟨gd, 5, none⟩ = some (.int .i64 l4.want) ∧ V.cell? ⟨gd, 6, none⟩ = some (.int .u64 l4.price) ∧ V.cell? ⟨gd, 7, none⟩ = some (.int .u64 l4.reserve) ∧ V.cell? ⟨gd, 8, none⟩ = some (.int .u64 l4.step) ∧ V.cell? ⟨gd, 9, none⟩ = some (.int .i64 l4.of') ∧ V.cell? ⟨gd, 10, none⟩ = some (.slice l4.ea l4.es.length l4.ec)) (go_keep)
    ((first
      | (go_at_call 17; (with_reducible refine (HK17.out _ hA0.out.ins.hl).mono ?_); rintro r1 y1 ⟨⟨q3, k3, rfl, ho1⟩, hb1⟩; have hA1 := hA0.grow hb1 ho1; obtain ⟨sb0, sb1, sb2, sb3, sb4, sb5, sb6, sb7, sb8, sb9, sb10⟩ := (hA1.out.ins.bl).cells)
      | (go_at_call 17; (with_reducible refine (HK17.out _ hA1.out.ins.hl).mono ?_); rintro r2 y2 ⟨⟨q4, k4, rfl, ho2⟩, hb2⟩; have hA2 := hA1.grow hb2 ho2; obtain ⟨sd0, sd1, sd2, sd3, sd4, sd5, sd6, sd7, sd8, sd9, sd10⟩ := (hA2.out.ins.bl).cells)
      | (go_at_call 19; (with_reducible refine (HK19.out _ hA2.out.ins.hl).mono ?_); rintro r3 y3 ⟨⟨q5, k5, rfl, ho3⟩, hb3⟩; have hA3 := hA2.grow hb3 ho3; obtain ⟨sf0, sf1, sf2, sf3, sf4, sf5, sf6, sf7, sf8, sf9, sf10⟩ := (hA3.out.ins.bl).cells)
      | (go_at_call 19; (with_reducible refine (HK19.out _ hA3.out.ins.hl).mono ?_); rintro r4 y4 ⟨⟨q6, k6, rfl, ho4⟩, hb4⟩; have hA4 := hA3.grow hb4 ho4; obtain ⟨sg0, sg1, sg2, sg3, sg4, sg5, sg6, sg7, sg8, sg9, sg10⟩ := (hA4.out.ins.bl).cells)))
  have HO6 := Lib.hid (show O2 w c e l4 x4 rd re gd ge d1 d2 m1 m2 B [(ad1, G.length, cp1), (ad2, G.length, cp2), (q3, eL.length, k3), (q4, eL.length, k4), (q5, bL.length, k5), (q6, bL.length, k6)] [(ad1, G), (ad2, G), (q3, eL), (q4, eL), (q5, bL), (q6, bL)] y4 from hA4)
  have HMY := Lib.hid (show V5.heap.size ≤ y4.heap.size by have h0 := (Qt.drewN V5 1).below V5.heap.size; have h1 := hb1.size; have h2 := hb2.size; have h3 := hb3.size; have h4 := hb4.size; have h5 : V5.heap.size ≤ V5.drew.heap.size := h0.size; omega)
  clear hA0 hA1 hA2 hA3 hA4 hb1 hb2 hb3 hb4 ho1 ho2 ho3 ho4 HK17 HK19 HO2 sa0 sa1 sa2 sa3 sa4 sa5 sa6 sa7 sa8 sa9 sa10 sb0 sb1 sb2 sb3 sb4 sb5 sb6 sb7 sb8 sb9 sb10 sd0 sd1 sd2 sd3 sd4 sd5 sd6 sd7 sd8 sd9 sd10 sf0 sf1 sf2 sf3 sf4 sf5 sf6 sf7 sf8 sf9 sf10 sg0 sg1 sg2 sg3 sg4 sg5 sg6 sg7 sg8 sg9 sg10
  go_wp2_with fail
  obtain ⟨V6, hV6⟩ : ∃ V, V = y4.alloc (.cells #[.slice ad1 G.length cp1, .slice ad2 G.length cp2, .slice q3 eL.length k3, .slice q4 eL.length k4, .slice q5 bL.length k5, .slice q6 bL.length k6] 27) := ⟨_, rfl⟩
  obtain ⟨gR, hgR⟩ : ∃ g, g = y4.heap.size := ⟨_, rfl⟩
  have hA6 : Below y4.heap.size y4 V6 := by rw [hV6]; exact (Below.refl _ _).alloc (Nat.le_refl _) _
  have HO7 := Lib.hid (HO6.out.kept hA6)
  have HRR := Lib.hid (show V6.heap[gR]? = some (.cells #[.slice ad1 G.length cp1, .slice ad2 G.length cp2, .slice q3 eL.length k3, .slice q4 eL.length k4, .slice q5 bL.length k5, .slice q6 bL.length k6] 27) by rw [hV6, hgR]; exact alloc_at rfl)
  have HSR := Lib.hid (show Sl V6 (some ⟨gR, 0, none⟩) ([(ad1, G.length, cp1), (ad2, G.length, cp2), (q3, eL.length, k3), (q4, eL.length, k4), (q5, bL.length, k5), (q6, bL.length, k6)].map rV) by rw [hV6, hgR]; exact sl_new _ _ _ _)
  have HGR := Lib.hid (show V5.heap.size ≤ gR ∧ gR < V6.heap.size by have := HMY.out; refine ⟨by rw [hgR]; omega, by rw [hV6, hgR]; simp⟩)
  rw [← hV6, ← hgR]
  clear hV6 hgR hA6 HO6 HMY
  have HK15 := Lib.hid (fun V (h : O2 w c e l4 x4 rd re gd ge d1 d2 m1 m2 B [(ad1, G.length, cp1), (ad2, G.length, cp2), (q3, eL.length, k3), (q4, eL.length, k4), (q5, bL.length, k5), (q6, bL.length, k6)] [(ad1, G), (ad2, G), (q3, eL), (q4, eL), (q5, bL), (q6, bL)] V) => sameCon_true d1 d2 V h.out.n1.ok h.out.n2.ok HDD.out)
  unfold Con.agg at HK15
  have HG12 := Lib.hid (fun V (h : O2 w c e l4 x4 rd re gd ge d1 d2 m1 m2 B [(ad1, G.length, cp1), (ad2, G.length, cp2), (q3, eL.length, k3), (q4, eL.length, k4), (q5, bL.length, k5), (q6, bL.length, k6)] [(ad1, G), (ad2, G), (q3, eL), (q4, eL), (q5, bL), (q6, bL)] V) => gifts_true ad1 ad2 cp1 cp2 G V (by have := HGL.out; omega) (h.sl (ad1, G) (by simp)) (h.sl (ad2, G) (by simp)))
  have HG34 := Lib.hid (fun V (h : O2 w c e l4 x4 rd re gd ge d1 d2 m1 m2 B [(ad1, G.length, cp1), (ad2, G.length, cp2), (q3, eL.length, k3), (q4, eL.length, k4), (q5, bL.length, k5), (q6, bL.length, k6)] [(ad1, G), (ad2, G), (q3, eL), (q4, eL), (q5, bL), (q6, bL)] V) => gifts_true q3 q4 k3 k4 eL V (by have := HLE.out; omega) (h.sl (q3, eL) (by simp)) (h.sl (q4, eL) (by simp)))
  have HG56 := Lib.hid (fun V (h : O2 w c e l4 x4 rd re gd ge d1 d2 m1 m2 B [(ad1, G.length, cp1), (ad2, G.length, cp2), (q3, eL.length, k3), (q4, eL.length, k4), (q5, bL.length, k5), (q6, bL.length, k6)] [(ad1, G), (ad2, G), (q3, eL), (q4, eL), (q5, bL), (q6, bL)] V) => gifts_true q5 q6 k5 k6 bL V (by have := HLB.out; omega) (h.sl (q5, bL) (by simp)) (h.sl (q6, bL) (by simp)))
  obtain ⟨sa0, sa1, sa2, sa3, sa4, sa5, sa6, sa7, sa8, sa9, sa10⟩ := (HO7.out.out.b1).cells
  obtain ⟨sb0, sb1, sb2, sb3, sb4, sb5, sb6, sb7, sb8, sb9, sb10⟩ := (HO7.out.out.b2).cells
  obtain ⟨z2, z3, z4, z5⟩ := cells6 HRR.out
  go_wp2
  have hA0 : O2 w c e l4 x4 rd re gd ge d1 d2 m1 m2 B [(ad1, G.length, cp1), (ad2, G.length, cp2), (q3, eL.length, k3), (q4, eL.length, k4), (q5, bL.length, k5), (q6, bL.length, k6)] [(ad1, G), (ad2, G), (q3, eL), (q4, eL), (q5, bL), (q6, bL)] V6.drew := HO7.out.kept ((Qt.drewN V6 1).below _)
  have hR0 := row_kept HRR.out ((Qt.drewN V6 1).below _)
  go_region_held3 (fun V => V.cell? ⟨m1, 0, none⟩ = some (.int .i64 d1.num) ∧ V.cell? ⟨m1, 1, none⟩ = some (.int .i64 d1.kind) ∧ V.cell? ⟨m1, 2, none⟩ = some (.int .i64 d1.by') ∧ V.cell? ⟨m1, 3, none⟩ = some (.int .i64 d1.dl) ∧ V.cell? ⟨m1, 4, none⟩ = some (.int .i64 d1.to') ∧ V.cell? ⟨m1, 5, none⟩ = some (.int .i64 d1.want) ∧ V.cell? ⟨m1, 6, none⟩ = some (.int .u64 d1.price) ∧ V.cell? ⟨m1, 7, none⟩ = some (.int .u64 d1.reserve) ∧ V.cell? ⟨m1, 8, none⟩ = some (.int .u64 d1.step) ∧ V.cell? ⟨m1, 9, none⟩ = some (.int .i64 d1.of') ∧ V.cell? ⟨m1, 10, none⟩ = some (.slice d1.ea d1.es.length d1.ec) ∧ V.cell? ⟨m2, 0, none⟩ = some (.int .i64 d2.num) ∧ V.cell? ⟨m2, 1, none⟩ = some (.int .i64 d2.kind) ∧ V.cell? ⟨m2, 2, none⟩ = some (.int .i64 d2.by') ∧ V.cell? ⟨m2, 3, none⟩ = some (.int .i64 d2.dl) ∧ V.cell? ⟨m2, 4, none⟩ = some (.int .i64 d2.to') ∧ V.cell? ⟨m2, 5, none⟩ = some (.int .i64 d2.want) ∧ V.cell? ⟨m2, 6, none⟩ = some (.int .u64 d2.price) ∧ V.cell? ⟨m2, 7, none⟩ = some (.int .u64 d2.reserve) ∧ V.cell? ⟨m2, 8, none⟩ = some (.int .u64 d2.step) ∧ V.cell? ⟨m2, 9, none⟩ = some (.int .i64 d2.of') ∧ V.cell? ⟨m2, 10, none⟩ = some (.slice d2.ea d2.es.length d2.ec) ∧ V.cell? ⟨gR, 2, none⟩ = some (.slice q3 eL.length k3) ∧ V.cell? ⟨gR, 3, none⟩ = some (.slice q4 eL.length k4) ∧ V.cell? ⟨gR, 4, none⟩ = some (.slice q5 bL.length k5) ∧ V.cell? ⟨gR, 5, none⟩ = some (.slice q6 bL.length k6)) (go_keep)
    ((first
      | (go_at_call 15; (with_reducible refine (HK15.out _ hA0).mono ?_); rintro r1 y1 ⟨rfl, hb1⟩; have hA1 := hA0.kept hb1; have hR1 := row_kept hR0 hb1; obtain ⟨sc0, sc1, sc2, sc3, sc4, sc5, sc6, sc7, sc8, sc9, sc10⟩ := (hA1.out.b1).cells; obtain ⟨sd0, sd1, sd2, sd3, sd4, sd5, sd6, sd7, sd8, sd9, sd10⟩ := (hA1.out.b2).cells; obtain ⟨t2, t3, t4, t5⟩ := cells6 hR1)
      | (go_at_call 14; (with_reducible refine (HG12.out _ hA1).mono ?_); rintro r2 y2 ⟨rfl, hq2⟩; have hA2 := hA1.kept (hq2.below _); have hR2 := row_kept hR1 (hq2.below _); obtain ⟨se0, se1, se2, se3, se4, se5, se6, se7, se8, se9, se10⟩ := (hA2.out.b1).cells; obtain ⟨sf0, sf1, sf2, sf3, sf4, sf5, sf6, sf7, sf8, sf9, sf10⟩ := (hA2.out.b2).cells; obtain ⟨u2, u3, u4, u5⟩ := cells6 hR2)
      | (go_at_call 14; (with_reducible refine (HG34.out _ hA2).mono ?_); rintro r3 y3 ⟨rfl, hq3⟩; have hA3 := hA2.kept (hq3.below _); have hR3 := row_kept hR2 (hq3.below _); obtain ⟨sg0, sg1, sg2, sg3, sg4, sg5, sg6, sg7, sg8, sg9, sg10⟩ := (hA3.out.b1).cells; obtain ⟨sh0, sh1, sh2, sh3, sh4, sh5, sh6, sh7, sh8, sh9, sh10⟩ := (hA3.out.b2).cells; obtain ⟨n2, n3, n4, n5⟩ := cells6 hR3)
      | (go_at_call 14; (with_reducible refine (HG56.out _ hA3).mono ?_); rintro r4 y8 ⟨rfl, hq4⟩; have hA4 := hA3.kept (hq4.below _); have hR4 := row_kept hR3 (hq4.below _); obtain ⟨si0, si1, si2, si3, si4, si5, si6, si7, si8, si9, si10⟩ := (hA4.out.b1).cells; obtain ⟨sj0, sj1, sj2, sj3, sj4, sj5, sj6, sj7, sj8, sj9, sj10⟩ := (hA4.out.b2).cells; obtain ⟨o2, o3, o4, o5⟩ := cells6 hR4)))
  have HO8 := Lib.hid hA4
  have HR8 := Lib.hid hR4
  have HB8 := Lib.hid ((((Qt.drewN V6 1).below V6.heap.size).trans (hb1.mono ((Qt.drewN V6 1).below V6.heap.size).size)).size)
  have HSR := Lib.hid (show Sl y8 (some ⟨gR, 0, none⟩) ([(ad1, G.length, cp1), (ad2, G.length, cp2), (q3, eL.length, k3), (q4, eL.length, k4), (q5, bL.length, k5), (q6, bL.length, k6)].map rV) from ((((HSR.out.kept ((Qt.drewN V6 1).below _)).kept hb1).kept (hq2.below _)).kept (hq3.below _)).kept (hq4.below _))
  have HGR8 := Lib.hid (show V6.heap.size ≤ y8.heap.size by have h1 := HB8.out; have h2 := (hq2.below y1.heap.size).size; have h3 := (hq3.below y2.heap.size).size; have h4 := (hq4.below y3.heap.size).size; omega)
  clear hA0 hA1 hA2 hA3 hA4 hR0 hR1 hR2 hR3 hR4 hb1 hq2 hq3 hq4 HB8 HK15 HG12 HG34 HG56 HO7 HRR z2 z3 z4 z5 t2 t3 t4 t5 u2 u3 u4 u5 n2 n3 n4 n5 o2 o3 o4 o5 sa0 sa1 sa2 sa3 sa4 sa5 sa6 sa7 sa8 sa9 sa10 sb0 sb1 sb2 sb3 sb4 sb5 sb6 sb7 sb8 sb9 sb10 sc0 sc1 sc2 sc3 sc4 sc5 sc6 sc7 sc8 sc9 sc10 sd0 sd1 sd2 sd3 sd4 sd5 sd6 sd7 sd8 sd9 sd10 se0 se1 se2 se3 se4 se5 se6 se7 se8 se9 se10 sf0 sf1 sf2 sf3 sf4 sf5 sf6 sf7 sf8 sf9 sf10 sg0 sg1 sg2 sg3 sg4 sg5 sg6 sg7 sg8 sg9 sg10 sh0 sh1 sh2 sh3 sh4 sh5 sh6 sh7 sh8 sh9 sh10
  go_wp2_with fail
  obtain ⟨V8, hV8⟩ : ∃ V, V = y8.alloc (.cells (rowB d1 d2) 25) := ⟨_, rfl⟩
  obtain ⟨gB, hgB⟩ : ∃ g, g = y8.heap.size := ⟨_, rfl⟩
  have hA8 : Below y8.heap.size y8 V8 := by rw [hV8]; exact (Below.refl _ _).alloc (Nat.le_refl _) _
  have HO9 := Lib.hid (HO8.out.kept hA8)
  have HR9 := Lib.hid (row_kept HR8.out hA8)
  have HSR := Lib.hid (HSR.out.kept hA8)
  have HRB := Lib.hid (show V8.heap[gB]? = some (.cells (rowB d1 d2) 25) by rw [hV8, hgB]; exact alloc_at rfl)
  have HGB := Lib.hid (show B ≤ gR ∧ gR < gB ∧ gB < V8.heap.size ∧ m2 < gR by have h1 := HGR.out; have h2 := HGR8.out; have h3 := HMM.out; refine ⟨by omega, by omega, by rw [hV8, hgB]; simp, by omega⟩)
  have HV8 : y8.alloc (.cells (rowB d1 d2) 25) = V8 := hV8.symm
  unfold rowB at HV8
  rw [HV8, ← hgB]
  clear HV8 hV8 hgB hA8 HO8 HR8 HGR HGR8 si0 si1 si2 si3 si4 si5 si6 si7 si8 si9 si10 sj0 sj1 sj2 sj3 sj4 sj5 sj6 sj7 sj8 sj9 sj10
  generalize (Value.agg #[.int .i64 c.num, .int .i64 c.kind, .int .i64 c.by', .int .i64 c.dl, .int .i64 c.to', .int .i64 c.want, .int .u64 c.price, .int .u64 c.reserve, .int .u64 c.step, .int .i64 c.of', .slice c.ea c.es.length c.ec]) = zc
  generalize (Value.agg #[.int .i64 e.acc, .int .i64 e.item, .int .u64 e.coins, .int .u64 e.price, .slice e.wa e.ws.length e.wc]) = ze
  generalize (Value.agg #[.int .i64 l4.num, .int .i64 l4.kind, .int .i64 l4.by', .int .i64 l4.dl, .int .i64 l4.to', .int .i64 l4.want, .int .u64 l4.price, .int .u64 l4.reserve, .int .u64 l4.step, .int .i64 l4.of', .slice l4.ea l4.es.length l4.ec]) = zl
  generalize (Value.agg #[.int .i64 x4.acc, .int .i64 x4.item, .int .u64 x4.coins, .int .u64 x4.price, .slice x4.wa x4.ws.length x4.wc]) = zx
  generalize (Value.agg #[.int .i64 d1.num, .int .i64 d1.kind, .int .i64 d1.by', .int .i64 d1.dl, .int .i64 d1.to', .int .i64 d1.want, .int .u64 d1.price, .int .u64 d1.reserve, .int .u64 d1.step, .int .i64 d1.of', .slice d1.ea d1.es.length d1.ec]) = zd1
  generalize (Value.agg #[.int .i64 d2.num, .int .i64 d2.kind, .int .i64 d2.by', .int .i64 d2.dl, .int .i64 d2.to', .int .i64 d2.want, .int .u64 d2.price, .int .u64 d2.reserve, .int .u64 d2.step, .int .i64 d2.of', .slice d2.ea d2.es.length d2.ec]) = zd2
  generalize (Value.tuple #[zd1, .slice ad1 G.length cp1, .bool false, .int .i64 jv]) = zt1
  generalize (Value.tuple #[zd2, .slice ad2 G.length cp2, .bool false, .int .i64 jv]) = zt2
  have HKB := Lib.hid (fun V (h : Below V8.heap.size V8 V) i (hi : i < 2) => both_cell (row_kept HRB.out h) i hi)
  have HCD := Lib.hid (show ∀ V, Below V8.heap.size V8 V → ∀ i, i < 2 → ConOk V (dd d1 d2 i) from fun V h i hi => by
    match i, hi with
    | 0, _ => exact (HO9.out.out.n1.kept h).ok
    | 1, _ => exact (HO9.out.out.n2.kept h).ok)
  have HWL := Lib.hid (fun i => wl_le d1 d2 i HO9.out.out.n1.mx HO9.out.out.n2.mx)
  go_loopw [17, 18, 19] (fun v' i x19 wr => ∃ (j : Nat) (v : Value), v = v' ∧ j ≤ 2 ∧ i = .int .i64 j ∧ Below V8.heap.size V8 wr ∧ wr.ownsRow V8.heap.size 31 1 v (wl d1 d2 j).length ((wl d1 d2 j).map rV)) (fun _ i _ _ => 2 - (intOf i).toNat)
  case atStart => exact ⟨0, _, rfl, by omega, rfl, Below.refl _ _, World.ownsRow_nil _ _ _ _⟩
  case round =>
    obtain ⟨j, v, hv, hj, rfl, hb, ho⟩ := hrel
    subst hv
    have HB := Lib.hid hb
    have HOW := Lib.hid ho
    clear hb ho
    by_cases hlt : j < 2
    case pos =>
      have t0 : decide ((j : Int) < 2) = true := by simp; omega
      have i1 : (j : Int) < 2 := by omega
      have HDJ := Lib.hid (wl_succ d1 d2 j hlt)
      have HKJ := Lib.hid (fun V (h : Below V8.heap.size V8 V) => HKB.out V h j hlt)
      have HCJ := Lib.hid (fun V (h : Below V8.heap.size V8 V) => HCD.out V h j hlt)
      have hwl := wl_lt d1 d2 j HO9.out.out.n1.mx HO9.out.out.n2.mx hlt
      generalize dd d1 d2 j = dj at HDJ HKJ HCJ
      generalize wl d1 d2 j = wj at HOW HDJ hwl
      have z1 := HKJ.out _ HB.out
      have hnd : dj.es.length ≤ 2513169434843 := (HCJ.out _ HB.out).mx
      go_wp2
      go_loopw [17, 19] (fun v' k wq => ∃ (q : Nat) (v : Value), v = v' ∧ q ≤ dj.es.length ∧ k = .int .i64 q ∧ Below V8.heap.size V8 wq ∧ wq.ownsRow V8.heap.size 31 1 v (wj.length + q) ((wj ++ (dj.es.map Ent.w3).take q).map rV)) (fun _ k _ => dj.es.length - (intOf k).toNat)
      case atStart => exact ⟨0, _, rfl, by omega, rfl, HB.out, by simpa using HOW.out⟩
      case round =>
        clear HB HOW z1
        obtain ⟨q, v, hv, hq, rfl, hb, ho⟩ := hrel
        subst hv
        have HB := Lib.hid hb
        have HOW := Lib.hid ho
        clear hb ho
        have z1 := HKJ.out _ HB.out
        by_cases hlq : q < dj.es.length
        case pos =>
          have t1 : decide ((q : Int) < (dj.es.length : Int)) = true := by simp; omega
          have i2 : (q : Int) < (dj.es.length : Int) := by omega
          obtain ⟨eb, eo, hea, f0, f1, f2, f3, f4⟩ := (HCJ.out _ HB.out).ent q hlq
          have HTQ := Lib.hid (show (dj.es.map Ent.w3).take (q + 1) = (dj.es.map Ent.w3).take q ++ [(dj.es[q]).w3] by rw [List.take_succ_eq_append_getElem (by simpa using hlq)]; simp)
          generalize dj.es[q] = xq at f0 f1 f2 f3 f4 HTQ
          rw [hea] at z1
          have h1c : ∀ u ∈ ([.slice xq.wa xq.ws.length xq.wc] : List Value), u.oneCell' = true := by intro u hu; rw [List.mem_singleton] at hu; subst hu; rfl
          have h63 : wj.length + q + 1 ≤ maxLen := by unfold maxLen; omega
          have hby : (wj.length + q + 1) * 24 ≤ 140737488355328 := by omega
          have hbs : V8.heap.size ≤ (wr.alloc (.cells #[.slice xq.wa xq.ws.length xq.wc] 31)).heap.size := by have h1 := HB.out.size; simp; omega
          go_wp2_with (at_builtin; refine wpList_append_sl_at rfl _ _ 68 rfl V8.heap.size 31 (.slice none 0 0) 1 24 Try.underlying68 info68' rfl (by decide) v (wj.length + q) ((wj ++ (dj.es.map Ent.w3).take q).map rV) (by rfl) (HOW.out.alloc _) (some ⟨wr.heap.size, 0, none⟩) 1 1 [.slice xq.wa xq.ws.length xq.wc] (by rfl) (fun h => by cases h) (by rfl) (sl_new _ _ _ _) h1c h63 hby hbs ?hoW)
          intro v2 w5 ho2 hg2 hl2
          have HB2 := Lib.hid ((HB.out.alloc HB.out.size (.cells #[.slice xq.wa xq.ws.length xq.wc] 31)).grown hg2 (by have h1 := HB.out.size; simp; omega) (fun k hk => (HOW.out.lt k hk).1))
          have HO2 := Lib.hid (show w5.ownsRow V8.heap.size 31 1 v2 (wj.length + (q + 1)) ((wj ++ (dj.es.map Ent.w3).take (q + 1)).map rV) by
            show w5.ownsRow V8.heap.size 31 1 v2 (wj.length + q + 1) _
            rw [HTQ.out, ← List.append_assoc, List.map_append, List.map_cons, List.map_nil, show rV xq.w3 = Value.slice xq.wa xq.ws.length xq.wc from rfl]
            simpa using ho2)
          clear ho2 hg2 hl2
          go_wp2
          go_roundw
          case rel => exact ⟨q + 1, _, rfl, by omega, by go_num, HB2.out, HO2.out⟩
          case measure => simp [intOf]; omega
        case neg =>
          have t1 : decide ((q : Int) < (dj.es.length : Int)) = false := by simp; omega
          have HO2 := Lib.hid (show wr.ownsRow V8.heap.size 31 1 v (wl d1 d2 (j + 1)).length ((wl d1 d2 (j + 1)).map rV) by
            have h := HOW.out
            rw [List.take_of_length_le (by rw [List.length_map]; omega), ← HDJ.out] at h
            rwa [show wj.length + q = (wl d1 d2 (j + 1)).length by rw [HDJ.out, List.length_append, List.length_map]; omega] at h)
          go_wp2
          go_roundw
          case rel => exact ⟨j + 1, _, rfl, by omega, by go_num, HB.out, HO2.out⟩
          case measure => simp [intOf]; omega
    case neg =>
      have t0 : decide ((j : Int) < 2) = false := by simp; omega
      obtain ⟨V9, hV9⟩ : ∃ W, W = wr := ⟨_, rfl⟩
      subst hV9
      have HOW := Lib.hid (show V9.ownsRow V8.heap.size 31 1 v (d1.es.map Ent.w3 ++ d2.es.map Ent.w3).length ((d1.es.map Ent.w3 ++ d2.es.map Ent.w3).map rV) by have h := HOW.out; rw [show j = 2 by omega] at h; exact h)
      have HWM := Lib.hid (show (d1.es.map Ent.w3 ++ d2.es.map Ent.w3).length ≤ 5500000000000 by have h := HWL.out 2; unfold wl at h; simp only [if_neg (show ¬ 2 = 0 by decide), if_neg (show ¬ 2 = 1 by decide)] at h; omega)
      have HO10 := Lib.hid (HO9.out.kept HB.out)
      have HSR := Lib.hid (HSR.out.kept HB.out)
      have HRR := Lib.hid (row_kept HR9.out HB.out)
      have HRB := Lib.hid (row_kept HRB.out HB.out)
      clear HO9 HR9 HKB HCD HWL
      obtain ⟨la, lc, hv, hn, hsl, -⟩ := owns_slice HOW.out
      subst hv
      have HK33 := Lib.hid (show Calls Try.prog 33 #[.slice (some ⟨gR, 0, none⟩) 6 6, .slice la (d1.es.map Ent.w3 ++ d2.es.map Ent.w3).length lc] V9 (fun r w' => r = .returned (.bool true) ∧ Only (fun b => ownS [(ad1, G.length, cp1), (ad2, G.length, cp2), (q3, eL.length, k3), (q4, eL.length, k4), (q5, bL.length, k5), (q6, bL.length, k6)] b ∨ ownS (d1.es.map Ent.w3 ++ d2.es.map Ent.w3) b) V9 w') from apart_any B [(ad1, G.length, cp1), (ad2, G.length, cp2), (q3, eL.length, k3), (q4, eL.length, k4), (q5, bL.length, k5), (q6, bL.length, k6)] (d1.es.map Ent.w3 ++ d2.es.map Ent.w3) (some ⟨gR, 0, none⟩) la 6 lc V9 (by simp) HWM.out
        (by intro r hr; have h1 := HGL.out; have h2 := HLE.out; have h3 := HLB.out; simp only [List.mem_cons, List.not_mem_nil, or_false] at hr; rcases hr with rfl | rfl | rfl | rfl | rfl | rfl <;> assumption)
        (wish_le HO10.out.out.n1 HO10.out.out.n2) HSR.out hsl
        (by intro y hy; cases hy; exact ⟨HO10.out.fr.off_row HRR.out (by decide), HO10.out.fw.off_row HRR.out (by decide)⟩)
        (by intro y hy; have hb : (Value.slice la (d1.es.map Ent.w3 ++ d2.es.map Ent.w3).length lc).ownBlock = some y.block := by rw [hy]; rfl
            exact ⟨HO10.out.fr.off_own HOW.out (by decide) _ hb, HO10.out.fw.off_own HOW.out (by decide) _ hb⟩)
        HO10.out.fr HO10.out.fw (fun b hb => HO10.out.fr.off HO10.out.fw (by decide) b hb) HO10.out.le)
      obtain ⟨NL, hNL⟩ : ∃ n, n = (d1.es.map Ent.w3 ++ d2.es.map Ent.w3).length := ⟨_, rfl⟩
      rw [← hNL] at HK33 ⊢
      clear hsl hn HOW hNL
      go_wp2_with fail
      refine HK33.out.mono ?_
      rintro r33 V10 ⟨rfl, hoa⟩
      have HI10 := Lib.hid (HO10.out.out.ins.only (B := B) (hi := V9.heap.size) (hoa.mono (fun b hb => hb.elim (fun h => HO10.out.fr.lt h) (fun h => HO10.out.fw.lt h))) HBB.out)
      have HM1 := Lib.hid (HO10.out.out.b1.only hoa (fun h => h.elim (HO10.out.fr.off_row HO10.out.out.b1 (by decide)) (HO10.out.fw.off_row HO10.out.out.b1 (by decide))))
      have HRB := Lib.hid (hoa.row HRB.out (fun h => h.elim (HO10.out.fr.off_row HRB.out (by decide)) (HO10.out.fw.off_row HRB.out (by decide))))
      have HFE := Lib.hid (HO10.out.fe.only hoa (fun b hb h => h.elim (HO10.out.fe.off HO10.out.fr (by decide) b hb) (HO10.out.fe.off HO10.out.fw (by decide) b hb)))
      have HMX := Lib.hid (And.intro HO10.out.out.n1.mx HO10.out.out.n2.mx)
      have HLE10 := Lib.hid (Nat.le_trans HO10.out.le hoa.size)
      clear hoa HK33 HO10 HSR HRR HWM HB
      go_wp2_with fail
      have HZ := Lib.hid (show ∀ V : World, V.heap[gB]? = some (.cells (rowB d1 d2) 25) → ∀ j (h : j < [d1.e3, d2.e3].length), V.cell? ⟨gB, j * 11 + 10, none⟩ = some (.slice [d1.e3, d2.e3][j].1 [d1.e3, d2.e3][j].2.1 [d1.e3, d2.e3][j].2.2) from fun V hv j h => by
        match j, h with
        | 0, _ => exact both_cell hv 0 (by decide)
        | 1, _ => exact both_cell hv 1 (by decide))
      have HNN := Lib.hid (show ∀ r ∈ [d1.e3, d2.e3], r.2.1 ≤ 2513169434843 from fun r hr => by
        simp only [List.mem_cons, List.not_mem_nil, or_false] at hr
        rcases hr with rfl | rfl
        · exact HMX.out.1
        · exact HMX.out.2)
      have HL2 := Lib.hid (show [d1.e3, d2.e3].length = 2 from rfl)
      have HRO := Lib.hid (HFE.out.off_row HRB.out (by decide))
      generalize [d1.e3, d2.e3] = ls at HZ HNN HL2 HFE HRO
      have HTT := Lib.hid (show ∀ b, ownS ls b → b < V10.heap.size from fun b hb => (HFE.out.lt hb).2)
      go_loopw [20, 21, 22, 23, 24] (fun v' i x22 x23 x24 wr => ∃ (j : Nat) (v : Value) (us : List Value), v = v' ∧ j ≤ 2 ∧ i = .int .i64 j ∧ Only (ownS ls) V10 wr ∧ us.length = j ∧ wr.ownsRow V10.heap.size 23 1 v j us ∧
          (∀ i' (h : i' < ls.length), j ≤ i' → ∃ xs, wr.ownsRow B 33 5 (rV ls[i']) ls[i'].2.1 xs) ∧
          ∀ i' (h : i' < ls.length) u, us[i']? = some u → wr.ownsRow B 33 5 u (ls[i'].2.1 + 20) (flatM (mE1 i') ls[i'].2.1 ++ flatM (mE2 i') 20) ∧ (u.ownBlock = (rV ls[i']).ownBlock ∨ ∃ b, u.ownBlock = some b ∧ V10.heap.size ≤ b)) (fun _ i _ _ _ _ => 2 - (intOf i).toNat)
      case atStart => exact ⟨0, _, [], rfl, by omega, rfl, Only.refl _ _, rfl, World.ownsRow_nil _ _ _ _, fun i' h _ => HFE.out.own i' h, fun i' h u hu => by simp at hu⟩
      case round =>
        obtain ⟨j, v, us, hv, hj, rfl, ho, hul, hou, how, hlo⟩ := hrel
        subst hv
        have HO := Lib.hid ho
        have HUL := Lib.hid hul
        have HOU := Lib.hid hou
        have HOW := Lib.hid how
        have HLO := Lib.hid hlo
        clear ho hul hou how hlo
        by_cases hlt : j < 2
        case pos =>
          have t0 : decide ((j : Int) < 2) = true := by simp; omega
          have i1 : (j : Int) < 2 := by omega
          have hjl : j < ls.length := by have := HL2.out; omega
          have HRJ := Lib.hid (show RowA B 33 5 (mE1 j) wr ls[j] 0 by obtain ⟨xs, hx⟩ := HOW.out j hjl (Nat.le_refl j); exact RowA.start hx)
          have HZJ := Lib.hid (fun V (h : V.heap[gB]? = some (.cells (rowB d1 d2) 25)) => HZ.out V h j hjl)
          have HN := Lib.hid (HNN.out ls[j] (List.getElem_mem hjl))
          have HAJ := Lib.hid (fun i' (h : i' < ls.length) (hne : i' ≠ j) => HFE.out.dis j i' hjl h (fun e => hne e.symm))
          have HEJ := Lib.hid (show ∀ i' (h : i' < ls.length), i' = j → ls[i'] = ls[j] from fun i' h e => by subst e; rfl)
          have HSJ := Lib.hid (show ∀ b, (rV ls[j]).ownBlock = some b → ownS ls b from fun b hb => ⟨_, List.getElem_mem hjl, hb⟩)
          generalize ls[j] = rj at HRJ HZJ HN HAJ HEJ HSJ
          obtain ⟨a, n, cq⟩ := rj
          have hn : n ≤ 2513169434843 := HN.out
          have HW := Lib.hid (HO.out.row HRB.out HRO.out)
          have z1 := HZJ.out _ HW.out
          try simp only at z1
          obtain ⟨w4, hw4⟩ : ∃ W, W = wr := ⟨_, rfl⟩
          subst hw4
          go_wp2
          go_loopw [22] (fun i wq => ∃ k : Nat, k ≤ n ∧ i = .int .i64 k ∧ Only (fun b => (rV (a, n, cq)).ownBlock = some b) w4 wq ∧ RowA B 33 5 (mE1 j) wq (a, n, cq) k) (fun i _ => n - (intOf i).toNat)
          case atStart => exact ⟨0, by omega, rfl, Only.refl _ _, HRJ.out⟩
          case round =>
            clear HRJ z1
            obtain ⟨k, hk, rfl, hoq, hrj⟩ := hrel
            have HQ := Lib.hid hoq
            have HRJ := Lib.hid hrj
            clear hoq hrj
            have z1 := HZJ.out _ (HQ.out.row HW.out (fun h => HRO.out (HSJ.out _ h)))
            try simp only at z1
            by_cases hlk : k < n
            case pos =>
              have t1 : decide ((k : Int) < (n : Int)) = true := by simp; omega
              have i2 : (k : Int) < (n : Int) := by omega
              obtain ⟨g, cur, hga, hrow, hsz, hmk⟩ := HRJ.out.mark (fun q => rfl) hlk
              have hga : a = some ⟨g, 0, none⟩ := hga
              subst hga
              have HRW := Lib.hid hrow
              have HMK := Lib.hid hmk
              have hSg := HSJ.out g rfl
              clear hrow hmk HRJ
              have hw1 : IntKind.i64.wrap (-(j : Int)) = -(j : Int) := by rw [IntKind.wrap_i64]; omega
              have hw2 : IntKind.i64.wrap (-(j : Int) - 1) = -(j : Int) - 1 := by rw [IntKind.wrap_i64]; omega
              go_wp2_with ((with_reducible refine at_store_op ?_); refine wpList_store_lit 33 g (k * 5) (cur.toList.take (k * 5) ++ mE1 j k ++ cur.toList.drop (k * 5 + 5)).toArray (.agg #[.int .i64 (-(j : Int) - 1), .int .i64 (k : Int), .int .u64 0, .int .u64 0, .slice none 0 0]) HRW.out szE (by show k * 5 + 5 ≤ cur.size; omega) rfl rfl ?_ ?_ ?_; exact rfl; exact rfl; intro w3 hp3)
              go_roundw
              case rel => exact ⟨k + 1, by omega, by go_num, HQ.out.trans hp3.only (fun n hn => .inl (hn ▸ rfl)), HMK.out _ hp3⟩
              case measure => simp [intOf]; omega
            case neg =>
              have t1 : decide ((k : Int) < (n : Int)) = false := by simp; omega
              have HQ4 := HQ
              have HG0 := Lib.hid (show wr.ownsRow B 33 5 (rV (a, n, cq)) n (flatM (mE1 j) n) by have h := HRJ.out; rw [show k = n by omega] at h; exact h.full)
              have HLJ := Lib.hid (show ∀ b, (rV (a, n, cq)).ownBlock = some b → b < V10.heap.size from fun b hb => HTT.out b (HSJ.out b hb))
              obtain ⟨wm, hwm⟩ : ∃ W, W = wr := ⟨_, rfl⟩
              subst hwm
              clear HRJ HQ
              go_wp2
              go_loopw [23, 24] (fun v' i wq => ∃ (k : Nat) (v7 : Value), v7 = v' ∧ k ≤ 20 ∧ i = .int .i64 k ∧ GoA B 33 5 (mE1 j) (mE2 j) wm wq (a, n, cq) k v7) (fun _ i _ => 20 - (intOf i).toNat)
              case atStart => exact ⟨0, _, rfl, by omega, rfl, GoA.start HG0.out⟩
              case round =>
                clear z1
                obtain ⟨k, v7, hv7, hk, rfl, hg⟩ := hrel
                subst hv7
                have HG := Lib.hid hg
                clear hg
                by_cases hlk : k < 20
                case pos =>
                  have t1 : decide ((k : Int) < 20) = true := by simp; omega
                  have hw1 : IntKind.i64.wrap (100 + (j : Int)) = 100 + (j : Int) := by rw [IntKind.wrap_i64]; omega
                  have h63 : n + k + 1 ≤ maxLen := by unfold maxLen; omega
                  have hby : (n + k + 1) * 56 ≤ 140737488355328 := by omega
                  have hbs : B ≤ (wr.alloc (.cells #[.int .i64 (100 + (j : Int)), .int .i64 (k : Int), .int .u64 0, .int .u64 0, .slice none 0 0] 33)).heap.size := by have h1 := HG.out.only.size; have h2 := HQ4.out.size; have h3 := HO.out.size; have h4 := HLE10.out; simp; omega
                  go_wp2_with (at_builtin; refine wpList_append_two rfl _ _ 23 rfl B 33 (.agg #[.int .i64 0, .int .i64 0, .int .u64 0, .int .u64 0, .slice none 0 0]) 5 56 Try.underlying23 infoE rfl (by decide) v7 (n + k) (flatM (mE1 j) n ++ flatM (mE2 j) k) (by rfl) (HG.out.own.alloc _) ⟨wr.heap.size, 0, none⟩ 1 1 (mE2 j k) (by rfl) (by decide) (by rfl) (sl_new _ _ _ _) (one_mE2 j k) h63 hby hbs ?hiE)
                  intro v2 w5 ho2 hg2 hl2
                  have HG2 := Lib.hid (HG.out.next (by first | exact ho2 | (rw [List.append_assoc]; exact ho2)) hg2 (by simpa only [World.size_alloc, ne_eq] using hl2))
                  clear ho2 hg2 hl2
                  go_wp2
                  go_roundw
                  case rel => exact ⟨k + 1, _, rfl, by omega, by go_num, HG2.out⟩
                  case measure => simp [intOf]; omega
                case neg =>
                  have t1 : decide ((k : Int) < 20) = false := by simp; omega
                  have HG20 := Lib.hid (show GoA B 33 5 (mE1 j) (mE2 j) wm wr (a, n, cq) 20 v7 by have h := HG.out; rw [show k = 20 by omega] at h; exact h)
                  clear HG
                  obtain ⟨g7, c7, cur7, hv7, -⟩ := owns_cases HG20.out.own (by omega)
                  subst hv7
                  have HNV := Lib.hid (show ∀ b, v.ownBlock = some b → (rV (a, n, cq)).ownBlock = some b → False from fun b hb hb2 => by have h1 := (HOU.out.lt b hb).1; have h2 := HLJ.out b hb2; omega)
                  have HOV := Lib.hid (show wr.ownsRow V10.heap.size 23 1 v j us from HG20.out.only.owns (HQ4.out.owns HOU.out HNV.out) HNV.out)
                  have h1c : ∀ u ∈ ([.slice (some ⟨g7, 0, none⟩) (n + 20) c7] : List Value), u.oneCell' = true := by intro u hu; rw [List.mem_singleton] at hu; subst hu; rfl
                  have h63 : j + 1 ≤ maxLen := by unfold maxLen; omega
                  have hby : (j + 1) * 24 ≤ 140737488355328 := by omega
                  have hbs : V10.heap.size ≤ (wr.alloc (.cells #[.slice (some ⟨g7, 0, none⟩) (n + 20) c7] 23)).heap.size := by have h1 := HG20.out.only.size; have h2 := HQ4.out.size; have h3 := HO.out.size; simp; omega
                  go_wp2_with (at_builtin; refine wpList_append_sl_at rfl _ _ 70 rfl V10.heap.size 23 (.slice none 0 0) 1 24 Try.underlying70 info70' rfl (by decide) v j us (by rfl) (HOV.out.alloc _) (some ⟨wr.heap.size, 0, none⟩) 1 1 [.slice (some ⟨g7, 0, none⟩) (n + 20) c7] (by rfl) (fun h => by cases h) (by rfl) (sl_new _ _ _ _) h1c h63 hby hbs ?hoE)
                  intro v2 w5 ho2 hg2 hl2
                  have hal : Below wr.heap.size wr (wr.alloc (.cells #[.slice (some ⟨g7, 0, none⟩) (n + 20) c7] 23)) := (Below.refl _ _).alloc (Nat.le_refl _) _
                  have HO5 := Lib.hid (show Only (ownS ls) V10 w5 from ((HO.out.trans (HQ4.out.mono (fun b hb => HSJ.out b hb)) (fun b hb => .inl hb)).trans (HG20.out.only.mono (fun b hb => HSJ.out b hb)) (fun b hb => .inl hb)).trans (T := fun b => v.ownBlock = some b) ((Only.of_below hal).trans (Only.of_grown (S := fun b => v.ownBlock = some b) hg2 (fun b hb => hb)) (fun b hb => .inl hb)) (fun b hb => .inr (HOU.out.lt b hb).1))
                  have hkp : ∀ {t s n' B' : Nat} {v' : Value} {xs : List Value}, w4.ownsRow B' t s v' n' xs → t ≠ 23 → (∀ b, v'.ownBlock = some b → (rV (a, n, cq)).ownBlock = some b → False) → w5.ownsRow B' t s v' n' xs := fun ho ht hn => ((HG20.out.only.owns (HQ4.out.owns ho hn) hn).alloc _).kept hg2 (owns_apart (HG20.out.only.owns (HQ4.out.owns ho hn) hn) HOV.out ht)
                  have HW5 := Lib.hid (show ∀ i' (h : i' < ls.length), j + 1 ≤ i' → ∃ xs, w5.ownsRow B 33 5 (rV ls[i']) ls[i'].2.1 xs from fun i' h hi => by
                    obtain ⟨xs, hx⟩ := HOW.out i' h (by omega)
                    exact ⟨xs, hkp hx (by decide) (fun b hb hb2 => HAJ.out i' h (by omega) b hb2 hb)⟩)
                  have HL5 := Lib.hid (show ∀ i' (h : i' < ls.length) u, (us ++ [Value.slice (some ⟨g7, 0, none⟩) (n + 20) c7])[i']? = some u → w5.ownsRow B 33 5 u (ls[i'].2.1 + 20) (flatM (mE1 i') ls[i'].2.1 ++ flatM (mE2 i') 20) ∧ (u.ownBlock = (rV ls[i']).ownBlock ∨ ∃ b, u.ownBlock = some b ∧ V10.heap.size ≤ b) from fun i' h u hu => by
                    have hul := HUL.out
                    by_cases e : i' < us.length
                    · rw [List.getElem?_append_left e] at hu
                      obtain ⟨q1, q2⟩ := HLO.out i' h u hu
                      refine ⟨hkp q1 (by decide) (fun b hb hb2 => ?_), q2⟩
                      rcases q2 with q2 | ⟨b3, q2, q3⟩
                      · rw [q2] at hb; exact HAJ.out i' h (by omega) b hb2 hb
                      · rw [q2] at hb; injection hb with hb; have := HLJ.out b hb2; omega
                    · have e2 : i' < (us ++ [Value.slice (some ⟨g7, 0, none⟩) (n + 20) c7]).length := (List.getElem?_eq_some_iff.1 hu).1
                      have e3 : i' = j := by simp at e2; omega
                      rw [List.getElem?_append_right (by omega), show i' - us.length = 0 by omega] at hu
                      have e4 := Option.some.inj hu
                      subst e4
                      have e5 := HEJ.out i' h e3
                      rw [e5]
                      refine ⟨by rw [e3]; exact (HG20.out.own.alloc _).kept hg2 (owns_apart HG20.out.own HOV.out (by decide)), ?_⟩
                      rcases HG20.out.at' with q | ⟨b, q1, q2⟩
                      · exact .inl q
                      · exact .inr ⟨b, q1, by have := HO.out.size; have := HQ4.out.size; omega⟩)
                  have HO2 := Lib.hid ho2
                  clear ho2 hg2 hl2 hal hkp
                  go_wp2
                  go_roundw
                  case rel => exact ⟨j + 1, _, _, rfl, by omega, by go_num, HO5.out, by have := HUL.out; simp; omega, HO2.out, HW5.out, HL5.out⟩
                  case measure => simp [intOf]; omega
        case neg =>
          have t0 : decide ((j : Int) < 2) = false := by simp; omega
          obtain ⟨V11, hV11⟩ : ∃ W, W = wr := ⟨_, rfl⟩
          subst hV11
          have HI11 := Lib.hid (HI10.out.only (B := B) (hi := V10.heap.size) (HO.out.mono (fun b hb => HFE.out.lt hb)) HBB.out)
          have HM11 := Lib.hid (HM1.out.only HO.out (HFE.out.off_row HM1.out (by decide)))
          have HW := Lib.hid (HO.out.row HRB.out HRO.out)
          have HOU := Lib.hid (show V11.ownsRow V10.heap.size 23 1 v 2 us by have h := HOU.out; rwa [show j = 2 by omega] at h)
          have HUL := Lib.hid (show us.length = 2 by have := HUL.out; omega)
          have HLO := Lib.hid (fun i' (h : i' < ls.length) u hu => (HLO.out i' h u hu).1)
          clear HO HOW HI10 HM1 HRB
          obtain ⟨gl, cl, curl, hvl, -⟩ := owns_cases HOU.out (by decide)
          subst hvl
          go_wp2
          go_loopw [25, 26, 27, 28] (fun i x26 x27 x28 wr => ∃ j : Nat, j ≤ 2 ∧ i = .int .i64 j ∧ Below V11.heap.size V11 wr) (fun i _ _ _ _ => 2 - (intOf i).toNat)
          case atStart => exact ⟨0, by omega, rfl, Below.refl _ _⟩
          case round =>
            obtain ⟨j, hj, rfl, hb⟩ := hrel
            have HB := Lib.hid hb
            clear hb
            by_cases hlt : j < 2
            case pos =>
              have t0 : decide ((j : Int) < 2) = true := by simp; omega
              have i1 : (j : Int) < 2 := by omega
              have hjl : j < ls.length := by have := HL2.out; omega
              have hju : j < us.length := by have := HUL.out; omega
              have HZJ := Lib.hid (fun V (h : Below V11.heap.size V11 V) => HZ.out V (row_kept HW.out h) j hjl)
              have HUJ := Lib.hid (fun V (h : Below V11.heap.size V11 V) => owns_cell (owns_below (B := 0) HOU.out h) j (List.getElem?_eq_getElem hju))
              have HLJ := Lib.hid (fun V (h : Below V11.heap.size V11 V) => owns_below (B := 0) (HLO.out j hjl us[j] (List.getElem?_eq_getElem hju)) h)
              have hn := HNN.out ls[j] (List.getElem_mem hjl)
              generalize ls[j] = rj at HZJ HLJ hn
              generalize us[j] = u at HUJ HLJ
              have HLC := Lib.hid (fun V (h : Below V11.heap.size V11 V) => long_cells (m1 := mE1 j) (m2 := mE2 j) (HLJ.out V h) (fun q => rfl) (fun q => rfl))
              obtain ⟨gu, cu, hu, -, -⟩ := HLC.out _ HB.out
              subst hu
              have HLC := Lib.hid (show ∀ V, Below V11.heap.size V11 V → (∀ k t v, k < rj.2.1 → t < 5 → (mE1 j k)[t]? = some v → V.cell? ⟨gu, k * 5 + t, none⟩ = some v) ∧ ∀ q t v, q < 20 → t < 5 → (mE2 j q)[t]? = some v → V.cell? ⟨gu, (rj.2.1 + q) * 5 + t, none⟩ = some v from fun V h => by
                obtain ⟨g', c', e', h'⟩ := HLC.out V h
                injection e' with e1 e2 e3
                injection e1 with e1
                injection e1 with e1
                subst e1
                exact h')
              obtain ⟨ra, n, rc⟩ := rj
              have hn : n ≤ 2513169434843 := hn
              have z1 := HZJ.out _ HB.out
              have z2 := HUJ.out _ HB.out
              try simp only at z1
              try simp only at z2
              go_wp2
              go_loopw [27, 28] (fun i x28 wq => ∃ k : Nat, k ≤ n + 20 ∧ i = .int .i64 k ∧ Below V11.heap.size V11 wq) (fun i _ _ => n + 20 - (intOf i).toNat)
              case atStart => exact ⟨0, by omega, rfl, HB.out⟩
              case round =>
                clear z1 z2 HB
                obtain ⟨k, hk, rfl, hb⟩ := hrel
                have HB := Lib.hid hb
                clear hb
                have z2 := HUJ.out _ HB.out
                try simp only at z2
                have wn : IntKind.i64.wrap ((n : Int) + 20) = (n : Int) + 20 := by rw [IntKind.wrap_i64]; omega
                by_cases hlk : k < n
                · have t1 : decide ((k : Int) < ((n : Int) + 20)) = true := by simp; omega
                  have t1' : decide ((k : Int) < ((n + 20 : Nat) : Int)) = true := by simp; omega
                  have t2 : decide ((k : Int) < (n : Int)) = true := by simp; omega
                  have t3 : decide ((k : Int) ≥ (n : Int)) = false := by simp; omega
                  have i2 : (k : Int) < (n : Int) := by omega
                  have i3 : ¬ (k : Int) ≥ (n : Int) := by omega
                  have i4 : (k : Int) < ((n + 20 : Nat) : Int) := by omega
                  have hx := (HLC.out _ HB.out).1 k
                  have x0 := hx 0 _ hlk (by decide) rfl
                  have x1 := hx 1 _ hlk (by decide) rfl
                  have x2 := hx 2 _ hlk (by decide) rfl
                  have x3 := hx 3 _ hlk (by decide) rfl
                  have x4' := hx 4 _ hlk (by decide) rfl
                  try simp only [Nat.add_zero] at x0
                  have hw1 : IntKind.i64.wrap (-(j : Int)) = -(j : Int) := by rw [IntKind.wrap_i64]; omega
                  have hw2 : IntKind.i64.wrap (-(j : Int) - 1) = -(j : Int) - 1 := by rw [IntKind.wrap_i64]; omega
                  have f0 : (-(j : Int) - 1 != -(j : Int) - 1) = false := by simp
                  have f1 : ((k : Int) != (k : Int)) = false := by simp
                  clear hx
                  go_wp2
                  go_roundw
                  case rel => exact ⟨k + 1, by omega, by go_num, HB.out.alloc HB.out.size _⟩
                  case measure => simp [intOf]; omega
                · by_cases hl4 : k < n + 20
                  · obtain ⟨q, rfl⟩ : ∃ q, k = n + q := ⟨k - n, by omega⟩
                    have hq : q < 20 := by omega
                    have t1 : decide (((n + q : Nat) : Int) < ((n : Int) + 20)) = true := by simp; omega
                    have t1' : decide (((n + q : Nat) : Int) < ((n + 20 : Nat) : Int)) = true := by simp; omega
                    have t2 : decide (((n + q : Nat) : Int) < (n : Int)) = false := by simp; omega
                    have t3 : decide (((n + q : Nat) : Int) ≥ (n : Int)) = true := by simp; omega
                    have i2 : ((n + q : Nat) : Int) < ((n + 20 : Nat) : Int) := by omega
                    have i3 : ((n + q : Nat) : Int) ≥ (n : Int) := by omega
                    have i4 : ¬ ((n + q : Nat) : Int) < (n : Int) := by omega
                    have hx := fun t v => (HLC.out _ HB.out).2 q t v hq
                    have x0 := hx 0 _ (by decide) rfl
                    have x1 := hx 1 _ (by decide) rfl
                    have x2 := hx 2 _ (by decide) rfl
                    have x3 := hx 3 _ (by decide) rfl
                    have x4' := hx 4 _ (by decide) rfl
                    try simp only [Nat.add_zero] at x0
                    have hw1 : IntKind.i64.wrap (100 + (j : Int)) = 100 + (j : Int) := by rw [IntKind.wrap_i64]; omega
                    have hw2 : IntKind.i64.wrap (((n + q : Nat) : Int) - (n : Int)) = (q : Int) := by rw [IntKind.wrap_i64]; omega
                    have hw3 : IntKind.i64.wrap ((n : Int) + (q : Int) - (n : Int)) = (q : Int) := by rw [IntKind.wrap_i64]; omega
                    have f0 : (100 + (j : Int) != 100 + (j : Int)) = false := by simp
                    have f1 : ((q : Int) != (q : Int)) = false := by simp
                    clear hx
                    go_wp2
                    go_roundw
                    case rel => exact ⟨n + q + 1, by omega, by go_num, HB.out.alloc HB.out.size _⟩
                    case measure => simp [intOf]; omega
                  · have t1 : decide ((k : Int) < ((n : Int) + 20)) = false := by simp; omega
                    have t1' : decide ((k : Int) < ((n + 20 : Nat) : Int)) = false := by simp; omega
                    go_wp2
                    go_roundw
                    case rel => exact ⟨j + 1, by omega, by go_num, HB.out⟩
                    case measure => simp [intOf]; omega
            case neg =>
              have t0 : decide ((j : Int) < 2) = false := by simp; omega
              have HI12 := Lib.hid (HI11.out.kept HB.out)
              have HM12 := Lib.hid (HM11.out.kept HB.out)
              clear HB HI11 HM11 HOU HUL HLO HZ HW HNN HL2 HFE HRO HTT
              have HK23 := Lib.hid (fun V (h : Ins w c e l4 x4 rd re gd ge V) => sameEntry_true x4 e V h.hx.mark.ok (HE.out.kept h.cb.bel) h.hx.d)
              have HK24 := Lib.hid (fun V (h : Ins w c e l4 x4 rd re gd ge V) => marked_true x4 re.1 V h.hx.mark)
              have HK16 := Lib.hid (fun V (h : Ins w c e l4 x4 rd re gd ge V) => kept_piece rd l4 c V h.hl (HC.out.kept h.cb.bel))
              unfold Con.agg at HK16
              unfold Ent.agg at HK23 HK24
              have e1 : (jv == jv) = true := by simp
              go_wp2
              refine jreg8 rfl (by kernel_rfl) (by kernel_rfl) (by simp) w.heap.size rfl c c HI12.out.cb.bc (HC.out.kept HI12.out.cb.bel) rfl (w.heap.size + 1) rfl e HI12.out.cb.be (HE.out.kept HI12.out.cb.bel) ?_
              intro x V13 gm d3 ad3 cp3 hb3 hgm ex29 hm3 hN3 hd3 ex30 hG3 ex31 ex32
              rw [HJV.out] at ex32
              simp only [putsF, List.foldl_cons, List.foldl_nil, Act.put, List.setIfInBounds_toArray, List.set_cons_zero, List.set_cons_succ, ex29, ex30, ex31, ex32]
              have hln : d3.es.length = d1.es.length := by have h := congrArg List.length (con_eq (hd3.trans HD1.out.symm)).2.2.2.2.2.2.2.2; simpa using h
              have e2 : ((d3.es.length : Int) == (d1.es.length : Int)) = true := by rw [hln]; simp
              have HI13 := Lib.hid (HI12.out.kept hb3)
              have HM13 := Lib.hid (HM12.out.kept hb3)
              have HM3 := Lib.hid hm3
              clear hb3 hgm hm3 hN3 hd3 hG3 ex29 ex30 ex31 ex32 hln HI12 HM12
              obtain ⟨a0, a1, a2, a3, a4⟩ := cells5 HI13.out.bx
              obtain ⟨b0, b1, b2, b3, b4⟩ := cells5 HI13.out.cb.be
              go_wp2_with fail
              refine (HK23.out _ HI13.out).mono ?_
              rintro r13 V14 ⟨rfl, hb⟩
              have HI14 := Lib.hid (HI13.out.kept hb)
              have HM14 := Lib.hid (HM13.out.kept hb)
              have HM3 := Lib.hid (HM3.out.kept hb)
              clear hb a0 a1 a2 a3 a4 b0 b1 b2 b3 b4 HI13 HM13
              obtain ⟨a0, a1, a2, a3, a4⟩ := cells5 HI14.out.bx
              go_wp2_with fail
              refine (HK24.out _ HI14.out).mono ?_
              rintro r14 V15 ⟨rfl, hb⟩
              have HI15 := Lib.hid (HI14.out.kept hb)
              have HM15 := Lib.hid (HM14.out.kept hb)
              have HM3 := Lib.hid (HM3.out.kept hb)
              clear hb a0 a1 a2 a3 a4 HI14 HM14
              have z1 := HM3.out.cells.2.2.2.2.2.2.2.2.2.2
              have z2 := HM15.out.cells.2.2.2.2.2.2.2.2.2.2
              obtain ⟨a0, a1, a2, a3, a4, a5, a6, a7, a8, a9, a10⟩ := HI15.out.bl.cells
              obtain ⟨b0, b1, b2, b3, b4, b5, b6, b7, b8, b9, b10⟩ := HI15.out.cb.bc.cells
              go_wp2_with fail
              refine (HK16.out _ HI15.out).mono ?_
              rintro r15 V16 ⟨rfl, ho⟩
              go_wp2
              go_ret
              exact ⟨rfl, (HI15.out.cb.only ho N2.out.2.2.2.2.1).bel⟩
theorem own : ownKnob Try.prog.godebug = none := by kernel_rfl
theorem laidOut : laidOutB Try.prog = true := by kernel_rfl
set_option maxRecDepth 100000 in
theorem lifted (os : Os) (started : os.Started) (H : Type) (enc : TypeId × Value → H) :
    ReturnsInHanded {} Try.checked os 8 .any (Rows.auctionOwnSpec.pre6 enc Try.prog Try.f8 Rows.auctionOwnRow.domain false) (Rows.auctionOwnSpec.post enc Try.prog Try.f8 false true false false) := by
  refine returnsInHanded_of_change_sized (C := Try.checked) own started (by kernel_rfl) Try.func8
    (ChangeSpec.witness6 (enc := enc) (C := Try.checked) false ⟨#[], #[.agg #[.int .i64 0, .int .i64 0, .int .i64 0, .int .i64 0, .int .i64 0, .int .i64 0, .int .u64 0, .int .u64 0, .int .u64 0, .int .i64 0, .slice none 0 0], .agg #[.int .i64 0, .int .i64 0, .int .u64 0, .int .u64 0, .slice none 0 0]], []⟩ 8 (by kernel_rfl) (by kernel_rfl) (by kernel_rfl) (by kernel_rfl)) ?_
  intro W base args ds gs before hval0 hW hcnd hsz0 _
  have hsz : (DataW.weightsEach Try.prog (Try.f8.params.toList ++ Rows.auctionOwnSpec.plain.varTypes Try.prog) (ds ++ gs)).all (· ≤ reachBytes) = true := hsz0
  clear hsz0
  have hval : ∀ (j : Nat) t v, Try.f8.params[j]? = some t → args[j]? = some v → Value.okWide Try.prog W .any base t v := hval0
  have hW' := hW
  obtain ⟨p, q, hA0, hV, rfl, hfz, hnd⟩ := hW
  have hA : DataW.TrodAll enc Try.prog W 0 (fun _ => true) true Try.f8.params.toList args.toList ds p := hA0
  rw [Try.params8] at hA hval hsz
  obtain ⟨v0, vs0, d0, ds0, p0, q0, hargs, rfl, rfl, h0, r0⟩ := trodAll_cons hA
  obtain ⟨v1, vs1, d1, ds1, p1, q1, rfl, rfl, rfl, h1, r1⟩ := trodAll_cons r0
  obtain ⟨rfl, rfl, rfl⟩ := trodAll_nil r1
  obtain rfl : args = #[v0, v1] := by cases args; simp_all
  obtain ⟨rfl, rfl⟩ := trodVars_none hV
  have k0 := h0
  have lt0 : ∀ x ∈ p0, x.block < W.heap.size := by obtain ⟨m, hm⟩ := k0; exact DataW.trod_lt m _ _ _ hm
  obtain ⟨c0, rfl, n0⟩ := open_con (hval 0 25 v0 rfl rfl) h0 hsz (j := 0) rfl rfl
  have k1 := h1
  have lt1 : ∀ x ∈ p1, x.block < W.heap.size := by obtain ⟨m, hm⟩ := k1; exact DataW.trod_lt m _ _ _ hm
  obtain ⟨c1, rfl, n1⟩ := open_ent (hval 1 33 v1 rfl rfl) h1 hsz (j := 1) rfl rfl
  clear hA0 hval0
  refine (walk c0 c1 W n0 n1).mono fun e W' ⟨he, bel⟩ => ?_
  subst he
  exact ⟨_, rfl, _, _, _, [], _, [], hW', trodAll_mk1 (shut_bool Try.underlying4 _), (trodAll_cons_mk (Below.trod laidOut (by kernel_rfl) (of_decide_eq_true (by kernel_rfl)) k0 bel lt0) (trodAll_cons_mk (Below.trod laidOut (by kernel_rfl) (of_decide_eq_true (by kernel_rfl)) k1 bel lt1) trodAll_mk0)), rfl, bel.frame _, fun h => by cases h⟩
theorem over : Rows.auctionOwnRow.holds Try.pinned (OpenSpec.ofChange Rows.auctionOwnSpec) :=
  OpenClaim.holds_of_wide 8 Try.f8 rfl rfl rfl rfl rfl rfl rfl ⟨rfl, rfl, rfl, rfl, rfl⟩ rfl rfl rfl rfl rfl (by kernel_rfl) Try.func8 (by kernel_rfl)
    (of_decide_eq_true (by kernel_rfl)) (by unfold Func.isWrapper; first | (rw [if_pos (by decide +kernel)]; kernel_rfl) | (rw [if_neg (by decide +kernel)]; exact ⟨rfl, rfl⟩))
    (fun os started H enc _ => lifted os started H enc)
theorem proved : Rows.AuctionOwnSaid := over
#print axioms proved
end Go.Proofs.Ytpejcndfplbikaa.lawAuctionOwn
