/-
  Of whatever contract: the terms, the end and every entry that joins are the document's; what is handed in stays, and is not kept.
  No condition beyond the statement's own.
-/
import Derived.Test.YtpikmcapnmdmbaaRg
import Derived.Test.YtpikmcapnmdmbaaYb
import Derived.Test.YtpikmcapnmdmbaaWo
namespace Go.Proofs.Ytpikmcapnmdmbaa.lawBarterContracts
open Go.RowKit Go.K Go.Maps Go.ChangeShapes Go.WideShapes Go.ChangeAt
set_option linter.unusedVariables false
set_option linter.unusedSimpArgs false
def EBox (W : World) (g : Nat) (e : Ent) : Prop := W.heap[g]? = some (.cells #[.int .i64 e.acc, .int .i64 e.item, .int .u64 e.coins, .int .u64 e.price, .slice e.wa e.ws.length e.wc] 48)
theorem EBox.kept {W W' : World} {g : Nat} {e : Ent} (h : EBox W g e) (hb : Below W.heap.size W W') : EBox W' g e := row_kept h hb
theorem EBox.cells {W : World} {g : Nat} {e : Ent} (h : EBox W g e) : W.cell? ⟨g, 0, none⟩ = some (.int .i64 e.acc) ∧ W.cell? ⟨g, 1, none⟩ = some (.int .i64 e.item) ∧ W.cell? ⟨g, 2, none⟩ = some (.int .u64 e.coins) ∧
    W.cell? ⟨g, 3, none⟩ = some (.int .u64 e.price) ∧ W.cell? ⟨g, 4, none⟩ = some (.slice e.wa e.ws.length e.wc) := cells5 h
structure At (w : World) (c l d : Con) (e o : Ent) (g5 g6 g9 lo5 lo6 lo9 : Nat) (ga : Option Addr) (gs : List Gi) (V : World) : Prop where
  bel : Below w.heap.size w V
  bc : Box V w.heap.size c
  be : EBox V (w.heap.size + 1) e
  bl : Box V g5 l
  bo : EBox V g6 o
  bd : Box V g9 d
  ml : MarkC lo5 V l
  mo : MarkE lo6 V o
  nd : NewC lo9 V d
  sg : Sl V ga (gFlat gs)
theorem At.kept {w : World} {c l d : Con} {e o : Ent} {g5 g6 g9 lo5 lo6 lo9 : Nat} {ga : Option Addr} {gs : List Gi} {V V' : World} (h : At w c l d e o g5 g6 g9 lo5 lo6 lo9 ga gs V) (hb : Below V.heap.size V V') : At w c l d e o g5 g6 g9 lo5 lo6 lo9 ga gs V' :=
  ⟨h.bel.trans (hb.mono h.bel.size), h.bc.kept hb, h.be.kept hb, h.bl.kept hb, h.bo.kept hb, h.bd.kept hb, h.ml.kept hb, h.mo.kept hb, h.nd.kept hb, h.sg.kept hb⟩
theorem joinD_d {c l : Con} {e o : Ent} (h : l.d = c.d) (ho : o.d = e.d) : joinD l o = joinD c e := by
  have he := con_es h
  simp only [Con.d, Prod.mk.injEq] at h
  obtain ⟨⟨h1, h2, h3, h4, h5⟩, ⟨h6, h7, h8, h9, h10⟩, _⟩ := h
  unfold joinD
  rw [h1, h2, h3, h4, h5, h6, h7, h8, h9, h10, he, ho]
theorem joinV_len {c : Con} {e : Ent} (h : joinV c e = 0) : c.es.length < 16 := by
  unfold joinV at h
  split at h
  · cases h
  · split at h
    · split at h
      · cases h
      · split at h
        · cases h
        · omega
    · cases h
theorem owns_pre {W : World} {B : Nat} {t : TypeId} {s n c : Nat} {a : Option Addr} {xs ys : List Value} (h : W.ownsRow B t s (.slice a (n + 1) c) (n + 1) (xs ++ ys)) (hx : xs.length = n * s) : W.ownsRow B t s (.slice a n c) n xs := by
  obtain ⟨g, cap, cur, hv, hg, hr, hle, hcm, hsz, htk⟩ := owns_cases h (by omega)
  injection hv with h1 h2 h3
  subst h1 h3
  refine ⟨hx, .inr ⟨g, c, cur, rfl, hg, hr, by omega, hcm, hsz, ?_⟩⟩
  have h4 := congrArg (List.take xs.length) htk
  rw [List.take_left, List.take_take] at h4
  rw [← h4]
  congr 1
  first | (rw [hx]; done) | (rw [Nat.min_eq_left] <;> first | (rw [hx]; done) | (rw [hx, Nat.succ_mul]; omega) | (rw [List.length_append]; omega) | omega)
structure Bt (w : World) (c d : Con) (e o : Ent) (g6 g9 lo9 : Nat) (V : World) : Prop where
  bel : Below w.heap.size w V
  bc : Box V w.heap.size c
  be : EBox V (w.heap.size + 1) e
  bo : EBox V g6 o
  bd : Box V g9 d
  nd : NewC lo9 V d
theorem Bt.only {S : Nat → Prop} {w : World} {c d : Con} {e o : Ent} {g6 g9 lo9 : Nat} {V V' : World} (h : Bt w c d e o g6 g9 lo9 V) (ho : Only S V V') (h1 : ∀ k, S k → w.heap.size + 2 ≤ k) (h2 : ¬ S g6) (h3 : ¬ S g9) (h4 : ∀ k, S k → k < lo9) : Bt w c d e o g6 g9 lo9 V' :=
  ⟨h.bel.trans (ho.below h.bel.size (fun k hk => by have := h1 k hk; omega)), ho.row h.bc (fun hs => by have := h1 _ hs; omega), ho.row h.be (fun hs => by have := h1 _ hs; omega), ho.row h.bo h2, ho.row h.bd h3,
    ho.owns h.nd.row (fun k hk hs => by have := (h.nd.row.lt k hk).1; have := h4 k hs; omega), fun x hx => ⟨ho.owns (h.nd.ents x hx).row (fun k hk hs => by have := ((h.nd.ents x hx).row.lt k hk).1; have := h4 k hs; omega), (h.nd.ents x hx).mx, (h.nd.ents x hx).wf, (h.nd.ents x hx).iw, (h.nd.ents x hx).cw, (h.nd.ents x hx).pw⟩, h.nd.mx⟩
theorem Bt.kept {w : World} {c d : Con} {e o : Ent} {g6 g9 lo9 : Nat} {V V' : World} (h : Bt w c d e o g6 g9 lo9 V) (hb : Below V.heap.size V V') : Bt w c d e o g6 g9 lo9 V' :=
  ⟨h.bel.trans (hb.mono h.bel.size), h.bc.kept hb, h.be.kept hb, h.bo.kept hb, h.bd.kept hb, h.nd.kept hb⟩
set_option maxRecDepth 100000 in
set_option maxHeartbeats 8000000 in
theorem walk (c : Con) (e : Ent) (w : World) (hc : ConOk w c) (he : EntOk w e) : Calls Try.prog 9 #[c.agg, e.agg] w fun r w' => r = .returned (.bool true) ∧ Below w.heap.size w w' := by
  have HC := Lib.hid hc
  have HE := Lib.hid he
  have HK26 := Lib.hid (fun V (h : Below w.heap.size w V) => lot_any c e V (hc.kept h) (he.kept h))
  have HK29 := Lib.hid (fun V (h : Below w.heap.size w V) => twin_any c V (hc.kept h))
  have HK35 := Lib.hid (fun V (h : Below w.heap.size w V) => twinEntry_any e V (he.kept h))
  have HK36 := Lib.hid (fun (l : Con) V (h : ConOk V l) => terms_any l V h)
  have HK28 := Lib.hid (fun (l : Con) V (h : ConOk V l) (h2 : l.es.length ≤ 3000) => end_any l V h h2)
  have HK30 := Lib.hid (fun (l : Con) (o : Ent) V (h : ConOk V l) (h2 : EntOk V o) => join_any l o V h h2)
  have HK37 := Lib.hid (fun V (h : Below w.heap.size w V) => rjoin_any c e V (hc.kept h))
  clear hc he
  unfold Con.agg Ent.agg at *
  go_enter Try.func9, Try.ntmps9
  have HB0 := Lib.hid (((Below.refl w.heap.size w).alloc (Nat.le_refl _) (.cells #[.int .i64 c.num, .int .i64 c.kind, .int .i64 c.by', .int .i64 c.dl, .int .i64 c.to', .int .i64 c.want, .int .u64 c.price, .int .u64 c.reserve, .int .u64 c.step, .int .i64 c.of', .slice c.ea c.es.length c.ec] 45)).alloc (by simp) (.cells #[.int .i64 e.acc, .int .i64 e.item, .int .u64 e.coins, .int .u64 e.price, .slice e.wa e.ws.length e.wc] 48))
  have X0 := Lib.hid (show Box ((w.alloc (.cells #[.int .i64 c.num, .int .i64 c.kind, .int .i64 c.by', .int .i64 c.dl, .int .i64 c.to', .int .i64 c.want, .int .u64 c.price, .int .u64 c.reserve, .int .u64 c.step, .int .i64 c.of', .slice c.ea c.es.length c.ec] 45)).alloc (.cells #[.int .i64 e.acc, .int .i64 e.item, .int .u64 e.coins, .int .u64 e.price, .slice e.wa e.ws.length e.wc] 48)) w.heap.size c from alloc_old (alloc_at rfl))
  have Y0 := Lib.hid (show EBox ((w.alloc (.cells #[.int .i64 c.num, .int .i64 c.kind, .int .i64 c.by', .int .i64 c.dl, .int .i64 c.to', .int .i64 c.want, .int .u64 c.price, .int .u64 c.reserve, .int .u64 c.step, .int .i64 c.of', .slice c.ea c.es.length c.ec] 45)).alloc (.cells #[.int .i64 e.acc, .int .i64 e.item, .int .u64 e.coins, .int .u64 e.price, .slice e.wa e.ws.length e.wc] 48)) (w.heap.size + 1) e from alloc_at (by simp))
  go_wp2_with fail
  refine (HK26.out _ HB0.out).mono ?_
  rintro r0 w1 ⟨⟨b, rfl, hbn⟩, hb⟩
  have HB1 := Lib.hid (HB0.out.trans (hb.mono HB0.out.size))
  have X1 := Lib.hid (X0.out.kept hb)
  have Y1 := Lib.hid (Y0.out.kept hb)
  clear hb
  obtain ⟨p0, p1, p2, p3, p4, p5, p6, p7, p8, p9, p10⟩ := X1.out.cells
  obtain ⟨q0, q1, q2, q3, q4⟩ := Y1.out.cells
  cases b with
  | true =>
    go_wp2
    go_ret
    exact ⟨rfl, HB1.out⟩
  | false =>
  have hlen := hbn rfl
  have HLE := Lib.hid (show c.es.length ≤ 3000 by omega)
  have HS1 := Lib.hid (lt_row Y1.out)
  clear hbn hlen HB0 X0 Y0
  go_wp2_with fail
  refine (HK29.out _ HB1.out).mono ?_
  rintro r0 w2 ⟨l, rfl, hld, hml, hb⟩
  have HLD := Lib.hid hld
  have HML := Lib.hid hml
  have HB2 := Lib.hid (HB1.out.trans (hb.mono HB1.out.size))
  have X2 := Lib.hid (X1.out.kept hb)
  have Y2 := Lib.hid (Y1.out.kept hb)
  have HS2 := Lib.hid hb.size
  clear hb hld hml p0 p1 p2 p3 p4 p5 p6 p7 p8 p9 p10 q0 q1 q2 q3 q4
  obtain ⟨q0, q1, q2, q3, q4⟩ := Y2.out.cells
  go_wp2_with ((with_reducible refine at_store_op ?_); refine wpList_store_lit 45 w2.heap.size 0 #[.int .i64 l.num, .int .i64 l.kind, .int .i64 l.by', .int .i64 l.dl, .int .i64 l.to', .int .i64 l.want, .int .u64 l.price, .int .u64 l.reserve, .int .u64 l.step, .int .i64 l.of', .slice l.ea l.es.length l.ec] (.agg #[.int .i64 l.num, .int .i64 l.kind, .int .i64 l.by', .int .i64 l.dl, .int .i64 l.to', .int .i64 l.want, .int .u64 l.price, .int .u64 l.reserve, .int .u64 l.step, .int .i64 l.of', .slice l.ea l.es.length l.ec]) (alloc_at rfl) szC (Nat.le_of_ble_eq_true rfl) rfl rfl ?_ ?_ ?_; exact rfl; exact rfl; intro w3 hpw3; have hb3 := hpw3.below ((Below.refl w2.heap.size w2).alloc (Nat.le_refl _) _) ((Below.refl w2.heap.size w2).alloc (Nat.le_refl _) _).size (Nat.le_refl _); obtain ⟨r0, r1, r2, r3, r4⟩ := (Y2.out.kept hb3).cells)
  have HB := Lib.hid (HB2.out.trans (hb3.mono HB2.out.size))
  have X := Lib.hid (X2.out.kept hb3)
  have Y := Lib.hid (Y2.out.kept hb3)
  have L := Lib.hid (show Box w3 w2.heap.size l from hpw3.at')
  have ML := Lib.hid (HML.out.kept hb3)
  have HS3 := Lib.hid (lt_row hpw3.at')
  have UL := Lib.hid ML.out.rn
  have UW := Lib.hid ML.out.rnw
  clear hb3 hpw3 q0 q1 q2 q3 q4 r0 r1 r2 r3 r4 X1 Y1 X2 Y2 HML HB1
  refine (HK35.out _ HB.out).mono ?_
  rintro r0 w4 ⟨o, rfl, hod, hmo, hb⟩
  have HOD := Lib.hid hod
  have MO := Lib.hid hmo
  have HB := Lib.hid (HB.out.trans (hb.mono HB.out.size))
  have X := Lib.hid (X.out.kept hb)
  have Y := Lib.hid (Y.out.kept hb)
  have L := Lib.hid (L.out.kept hb)
  have ML := Lib.hid (ML.out.kept hb)
  have HS4 := Lib.hid hb.size
  clear hb hod hmo
  go_wp2_with ((with_reducible refine at_store_op ?_); refine wpList_store_lit 48 w4.heap.size 0 #[.int .i64 o.acc, .int .i64 o.item, .int .u64 o.coins, .int .u64 o.price, .slice o.wa o.ws.length o.wc] (.agg #[.int .i64 o.acc, .int .i64 o.item, .int .u64 o.coins, .int .u64 o.price, .slice o.wa o.ws.length o.wc]) (alloc_at rfl) szE (Nat.le_of_ble_eq_true rfl) rfl rfl ?_ ?_ ?_; exact rfl; exact rfl; intro w5 hpw5; have hb5 := hpw5.below ((Below.refl w4.heap.size w4).alloc (Nat.le_refl _) _) ((Below.refl w4.heap.size w4).alloc (Nat.le_refl _) _).size (Nat.le_refl _); obtain ⟨r0, r1, r2, r3, r4, r5, r6, r7, r8, r9, r10⟩ := (L.out.kept hb5).cells)
  have HB := Lib.hid (HB.out.trans (hb5.mono HB.out.size))
  have X := Lib.hid (X.out.kept hb5)
  have Y := Lib.hid (Y.out.kept hb5)
  have L := Lib.hid (L.out.kept hb5)
  have ML := Lib.hid (ML.out.kept hb5)
  have MO := Lib.hid (MO.out.kept hb5)
  have O := Lib.hid (show EBox w5 w4.heap.size o from hpw5.at')
  have HS5 := Lib.hid (lt_row hpw5.at')
  have UO := Lib.hid (fun k (hk : (Value.slice o.wa (o.ws.length + 1) o.wc).ownBlock = some k) => MO.out.row.lt k hk)
  clear hb5 hpw5 r0 r1 r2 r3 r4 r5 r6 r7 r8 r9 r10
  refine (HK36.out l _ ML.out.ok).mono ?_
  rintro r0 w6 ⟨rfl, hb⟩
  have HS6 := Lib.hid hb.size
  have HB := Lib.hid (HB.out.trans (hb.mono HB.out.size))
  have X := Lib.hid (X.out.kept hb)
  have Y := Lib.hid (Y.out.kept hb)
  have L := Lib.hid (L.out.kept hb)
  have ML := Lib.hid (ML.out.kept hb)
  have MO := Lib.hid (MO.out.kept hb)
  have O := Lib.hid (O.out.kept hb)
  clear hb
  obtain ⟨r0, r1, r2, r3, r4, r5, r6, r7, r8, r9, r10⟩ := L.out.cells
  obtain ⟨q0, q1, q2, q3, q4⟩ := O.out.cells
  go_wp2_with fail
  refine (HK28.out l _ ML.out.ok (by rw [d_len (con_es HLD.out)]; exact HLE.out)).mono ?_
  rintro r0 w7 ⟨gv, G, rfl, hgot, hown, hb⟩
  have HS7 := Lib.hid hb.size
  have HB := Lib.hid (HB.out.trans (hb.mono HB.out.size))
  have X := Lib.hid (X.out.kept hb)
  have Y := Lib.hid (Y.out.kept hb)
  have L := Lib.hid (L.out.kept hb)
  have ML := Lib.hid (ML.out.kept hb)
  have MO := Lib.hid (MO.out.kept hb)
  have O := Lib.hid (O.out.kept hb)
  clear hb r0 r1 r2 r3 r4 r5 r6 r7 r8 r9 r10 q0 q1 q2 q3 q4
  obtain ⟨ga, gc, rfl, _, hsl, _⟩ := owns_slice hown
  have HG := Lib.hid hgot
  have SG := Lib.hid hsl
  have HLG := Lib.hid (endG_len l.es (l.es.map Ent.item) G l.es.length)
  clear hgot hown hsl
  obtain ⟨r0, r1, r2, r3, r4, r5, r6, r7, r8, r9, r10⟩ := L.out.cells
  obtain ⟨q0, q1, q2, q3, q4⟩ := O.out.cells
  go_wp2_with fail
  refine (HK30.out l o _ ML.out.ok MO.out.ok).mono ?_
  rintro r0 w8 ⟨d, rfl, hb, hnd, hdd⟩
  have ND := Lib.hid hnd
  have HDD := Lib.hid hdd
  have HB := Lib.hid (HB.out.trans (hb.mono HB.out.size))
  have X := Lib.hid (X.out.kept hb)
  have Y := Lib.hid (Y.out.kept hb)
  have L := Lib.hid (L.out.kept hb)
  have ML := Lib.hid (ML.out.kept hb)
  have MO := Lib.hid (MO.out.kept hb)
  have O := Lib.hid (O.out.kept hb)
  have SG := Lib.hid (SG.out.kept hb)
  have HS8 := Lib.hid hb.size
  clear hb hnd hdd r0 r1 r2 r3 r4 r5 r6 r7 r8 r9 r10 q0 q1 q2 q3 q4
  go_wp2_with ((with_reducible refine at_store_op ?_); refine wpList_store_lit 45 w8.heap.size 0 #[.int .i64 d.num, .int .i64 d.kind, .int .i64 d.by', .int .i64 d.dl, .int .i64 d.to', .int .i64 d.want, .int .u64 d.price, .int .u64 d.reserve, .int .u64 d.step, .int .i64 d.of', .slice d.ea d.es.length d.ec] (.agg #[.int .i64 d.num, .int .i64 d.kind, .int .i64 d.by', .int .i64 d.dl, .int .i64 d.to', .int .i64 d.want, .int .u64 d.price, .int .u64 d.reserve, .int .u64 d.step, .int .i64 d.of', .slice d.ea d.es.length d.ec]) (alloc_at rfl) szC (Nat.le_of_ble_eq_true rfl) rfl rfl ?_ ?_ ?_; exact rfl; exact rfl; intro w9 hpw9; have hb9 := hpw9.below ((Below.refl w8.heap.size w8).alloc (Nat.le_refl _) _) ((Below.refl w8.heap.size w8).alloc (Nat.le_refl _) _).size (Nat.le_refl _); obtain ⟨p0, p1, p2, p3, p4, p5, p6, p7, p8, p9, p10⟩ := (X.out.kept hb9).cells; obtain ⟨q0, q1, q2, q3, q4⟩ := (Y.out.kept hb9).cells)
  have HB := Lib.hid (HB.out.trans (hb9.mono HB.out.size))
  have X := Lib.hid (X.out.kept hb9)
  have Y := Lib.hid (Y.out.kept hb9)
  have L := Lib.hid (L.out.kept hb9)
  have ML := Lib.hid (ML.out.kept hb9)
  have MO := Lib.hid (MO.out.kept hb9)
  have O := Lib.hid (O.out.kept hb9)
  have SG := Lib.hid (SG.out.kept hb9)
  have ND := Lib.hid (ND.out.kept hb9)
  have D := Lib.hid (show Box w9 w8.heap.size d from hpw9.at')
  clear hb9 hpw9 p0 p1 p2 p3 p4 p5 p6 p7 p8 p9 p10 q0 q1 q2 q3 q4
  refine (HK37.out _ HB.out).mono ?_
  rintro r0 w10 ⟨rfl, hb⟩
  have HB := Lib.hid (HB.out.trans (hb.mono HB.out.size))
  have X := Lib.hid (X.out.kept hb)
  have Y := Lib.hid (Y.out.kept hb)
  have L := Lib.hid (L.out.kept hb)
  have ML := Lib.hid (ML.out.kept hb)
  have MO := Lib.hid (MO.out.kept hb)
  have O := Lib.hid (O.out.kept hb)
  have SG := Lib.hid (SG.out.kept hb)
  have ND := Lib.hid (ND.out.kept hb)
  have D := Lib.hid (D.out.kept hb)
  clear hb
  have HAT := Lib.hid (show At w c l d e o w2.heap.size w4.heap.size w8.heap.size w1.heap.size w3.heap.size w7.heap.size ga (endG l.es (l.es.map Ent.item) G l.es.length) w10 from ⟨HB.out, X.out, Y.out, L.out, O.out, D.out, ML.out, MO.out, ND.out, SG.out⟩)
  have T1 := Lib.hid (termsB_d HLD.out)
  have J1 := Lib.hid (joinV_d HLD.out HOD.out)
  have HK38 := Lib.hid (fun V (h : At w c l d e o w2.heap.size w4.heap.size w8.heap.size w1.heap.size w3.heap.size w7.heap.size ga (endG l.es (l.es.map Ent.item) G l.es.length) V) => rterms_any c V (HC.out.kept h.bel))
  have HK40 := Lib.hid (fun V (h : At w c l d e o w2.heap.size w4.heap.size w8.heap.size w1.heap.size w3.heap.size w7.heap.size ga (endG l.es (l.es.map Ent.item) G l.es.length) V) => show Calls Try.prog 40 #[c.agg] V fun r V' => ∃ a2 c2, r = .returned (.slice a2 (endG l.es (l.es.map Ent.item) G l.es.length).length c2) ∧ Sl V' a2 (gFlat (endG l.es (l.es.map Ent.item) G l.es.length)) ∧ Below V.heap.size V V' from by
    refine (rend_any c V (HC.out.kept h.bel) HLE.out).mono ?_
    rintro r V' ⟨v, G', rfl, hgot, hown, hb⟩
    obtain ⟨a2, c2, rfl, _, hsl, _⟩ := owns_slice hown
    rw [← ends_same (con_es HLD.out) HG.out hgot] at hsl ⊢
    exact ⟨a2, c2, rfl, hsl, hb⟩)
  have HK39 := Lib.hid (fun V (a2 : Option Addr) (c2 : Nat) (h1 : Sl V ga (gFlat (endG l.es (l.es.map Ent.item) G l.es.length))) (h2 : Sl V a2 (gFlat (endG l.es (l.es.map Ent.item) G l.es.length))) => show Calls Try.prog 39 #[.slice ga (endG l.es (l.es.map Ent.item) G l.es.length).length gc, .slice a2 (endG l.es (l.es.map Ent.item) G l.es.length).length c2] V fun r V' => r = .returned (.bool true) ∧ Below V.heap.size V V' from
    (gifts_true ga a2 gc c2 _ V (by have := HLG.out; have := HLE.out; have := d_len (con_es HLD.out); omega) h1 h2).mono (fun r V' h => ⟨h.1, h.2.below _⟩))
  have HK41 := Lib.hid (fun V (h : At w c l d e o w2.heap.size w4.heap.size w8.heap.size w1.heap.size w3.heap.size w7.heap.size ga (endG l.es (l.es.map Ent.item) G l.es.length) V) => whole_true l c _ V h.ml (HC.out.kept h.bel) HLD.out)
  have HK42 := Lib.hid (fun V (h : At w c l d e o w2.heap.size w4.heap.size w8.heap.size w1.heap.size w3.heap.size w7.heap.size ga (endG l.es (l.es.map Ent.item) G l.es.length) V) => sameEntry_true o e V h.mo.ok (HE.out.kept h.bel) HOD.out)
  rw [T1.out, J1.out]
  rw [J1.out] at HDD
  generalize endG l.es (l.es.map Ent.item) G l.es.length = gs at *
  generalize hjv : joinV c e = jv at *
  generalize htb : termsB c = tb at *
  have HJV := Lib.hid hjv
  clear hjv htb T1 J1 HLG HG X Y L O D ML MO ND SG HB HK26 HK29 HK35 HK36 HK30 HK37
  obtain ⟨go, hoa, hol, hom⟩ := HAT.out.mo.mark (Below.refl _ _)
  have HOM := Lib.hid hom
  obtain ⟨oa, oi, oc, op, ow, ok, os⟩ := o
  simp only at hoa hol hom HOM
  have how : os = e.ws := congrArg (fun z => z.2.2.2.2) HOD.out
  subst hoa how
  unfold Con.agg Ent.agg at *
  simp only at HK42
  have u0 : (tb != tb) = false := by simp
  have u1 : (jv != jv) = false := by simp
  have hxm := HE.out.mx
  have i1 : IntKind.i64.wrap ((e.ws.length : Int) + 1) = (e.ws.length : Int) + 1 := by rw [IntKind.wrap_i64]; omega
  have i2 : (0 : Int) ≤ (e.ws.length : Int) + 1 := by omega
  have i3 : (e.ws.length : Int) + 1 ≤ (ok : Int) := by omega
  have i4 : (e.ws.length : Int) < (e.ws.length : Int) + 1 := by omega
  have i5 : ((e.ws.length : Int) + 1).toNat = e.ws.length + 1 := by omega
  have hA0 := HAT.out.kept (show Below w10.heap.size w10 w10.drew from (Qt.drewN _ 1).below _)
  clear hxm hol
  obtain ⟨ap0, ap1, ap2, ap3, ap4, ap5, ap6, ap7, ap8, ap9, ap10⟩ := HAT.out.bc.cells; obtain ⟨aq0, aq1, aq2, aq3, aq4⟩ := HAT.out.be.cells; obtain ⟨ar0, ar1, ar2, ar3, ar4, ar5, ar6, ar7, ar8, ar9, ar10⟩ := HAT.out.bl.cells; obtain ⟨as0, as1, as2, as3, as4⟩ := HAT.out.bo.cells
  have am := HOM.out
  go_wp2
  go_region_held3 (fun V => V.cell? ⟨w.heap.size, 0, none⟩ = some (.int .i64 c.num) ∧ V.cell? ⟨w.heap.size, 1, none⟩ = some (.int .i64 c.kind) ∧ V.cell? ⟨w.heap.size, 2, none⟩ = some (.int .i64 c.by') ∧ V.cell? ⟨w.heap.size, 3, none⟩ = some (.int .i64 c.dl) ∧ V.cell? ⟨w.heap.size, 4, none⟩ = some (.int .i64 c.to') ∧ V.cell? ⟨w.heap.size, 5, none⟩ = some (.int .i64 c.want) ∧ V.cell? ⟨w.heap.size, 6, none⟩ = some (.int .u64 c.price) ∧ V.cell? ⟨w.heap.size, 7, none⟩ = some (.int .u64 c.reserve) ∧ V.cell? ⟨w.heap.size, 8, none⟩ = some (.int .u64 c.step) ∧ V.cell? ⟨w.heap.size, 9, none⟩ = some (.int .i64 c.of') ∧ V.cell? ⟨w.heap.size, 10, none⟩ = some (.slice c.ea c.es.length c.ec) ∧ V.cell? ⟨w.heap.size + 1, 0, none⟩ = some (.int .i64 e.acc) ∧ V.cell? ⟨w.heap.size + 1, 1, none⟩ = some (.int .i64 e.item) ∧ V.cell? ⟨w.heap.size + 1, 2, none⟩ = some (.int .u64 e.coins) ∧ V.cell? ⟨w.heap.size + 1, 3, none⟩ = some (.int .u64 e.price) ∧ V.cell? ⟨w.heap.size + 1, 4, none⟩ = some (.slice e.wa e.ws.length e.wc) ∧ V.cell? ⟨w2.heap.size, 0, none⟩ = some (.int .i64 l.num) ∧ V.cell? ⟨w2.heap.size, 1, none⟩ = some (.int .i64 l.kind) ∧ V.cell? ⟨w2.heap.size, 2, none⟩ = some (.int .i64 l.by') ∧ V.cell? ⟨w2.heap.size, 3, none⟩ = some (.int .i64 l.dl) ∧ V.cell? ⟨w2.heap.size, 4, none⟩ = some (.int .i64 l.to') ∧ V.cell? ⟨w2.heap.size, 5, none⟩ = some (.int .i64 l.want) ∧ V.cell? ⟨w2.heap.size, 6, none⟩ = some (.int .u64 l.price) ∧ V.cell? ⟨w2.heap.size, 7, none⟩ = some (.int .u64 l.reserve) ∧ V.cell? ⟨w2.heap.size, 8, none⟩ = some (.int .u64 l.step) ∧ V.cell? ⟨w2.heap.size, 9, none⟩ = some (.int .i64 l.of') ∧ V.cell? ⟨w2.heap.size, 10, none⟩ = some (.slice l.ea l.es.length l.ec) ∧ V.cell? ⟨w4.heap.size, 0, none⟩ = some (.int .i64 oa) ∧ V.cell? ⟨w4.heap.size, 1, none⟩ = some (.int .i64 oi) ∧ V.cell? ⟨w4.heap.size, 2, none⟩ = some (.int .u64 oc) ∧ V.cell? ⟨w4.heap.size, 3, none⟩ = some (.int .u64 op) ∧ V.cell? ⟨w4.heap.size, 4, none⟩ = some (.slice (some ⟨go, 0, none⟩) e.ws.length ok) ∧ V.cell? ⟨go, e.ws.length, none⟩ = some (.int .i64 (-77))) (go_keep)
    ((first
      | (go_at_call 38; (with_reducible refine (HK38.out _ hA0).mono ?_); rintro r1 y1 ⟨rfl, hb1⟩; have hA1 := hA0.kept hb1; obtain ⟨bp0, bp1, bp2, bp3, bp4, bp5, bp6, bp7, bp8, bp9, bp10⟩ := hA1.bc.cells; obtain ⟨bq0, bq1, bq2, bq3, bq4⟩ := hA1.be.cells; obtain ⟨br0, br1, br2, br3, br4, br5, br6, br7, br8, br9, br10⟩ := hA1.bl.cells; obtain ⟨bs0, bs1, bs2, bs3, bs4⟩ := hA1.bo.cells; have bm := below_cell ((show Below w10.heap.size w10 w10.drew from (Qt.drewN _ 1).below _).trans hb1) am)
      | (go_at_call 40; (with_reducible refine (HK40.out _ hA1).mono ?_); rintro r2 y2 ⟨a2, c2, rfl, hs2, hb2⟩; have hA2 := hA1.kept hb2; obtain ⟨dp0, dp1, dp2, dp3, dp4, dp5, dp6, dp7, dp8, dp9, dp10⟩ := hA2.bc.cells; obtain ⟨dq0, dq1, dq2, dq3, dq4⟩ := hA2.be.cells; obtain ⟨dr0, dr1, dr2, dr3, dr4, dr5, dr6, dr7, dr8, dr9, dr10⟩ := hA2.bl.cells; obtain ⟨ds0, ds1, ds2, ds3, ds4⟩ := hA2.bo.cells; have dm := below_cell hb2 bm)
      | (go_at_call 39; (with_reducible refine (HK39.out _ a2 c2 hA2.sg hs2).mono ?_); rintro r3 y3 ⟨rfl, hb3⟩; have hA3 := hA2.kept hb3; obtain ⟨fp0, fp1, fp2, fp3, fp4, fp5, fp6, fp7, fp8, fp9, fp10⟩ := hA3.bc.cells; obtain ⟨fq0, fq1, fq2, fq3, fq4⟩ := hA3.be.cells; obtain ⟨fr0, fr1, fr2, fr3, fr4, fr5, fr6, fr7, fr8, fr9, fr10⟩ := hA3.bl.cells; obtain ⟨fs0, fs1, fs2, fs3, fs4⟩ := hA3.bo.cells; have fm := below_cell hb3 dm)
      | (go_at_call 41; (with_reducible refine (HK41.out _ hA3).mono ?_); rintro r4 y4 ⟨rfl, hb4⟩; have hA4 := hA3.kept hb4; obtain ⟨gp0, gp1, gp2, gp3, gp4, gp5, gp6, gp7, gp8, gp9, gp10⟩ := hA4.bc.cells; obtain ⟨gq0, gq1, gq2, gq3, gq4⟩ := hA4.be.cells; obtain ⟨gr0, gr1, gr2, gr3, gr4, gr5, gr6, gr7, gr8, gr9, gr10⟩ := hA4.bl.cells; obtain ⟨gs0, gs1, gs2, gs3, gs4⟩ := hA4.bo.cells; have gm := below_cell hb4 fm)
      | (go_at_call 42; (with_reducible refine (HK42.out _ hA4).mono ?_); rintro r5 y5 ⟨rfl, hb5⟩; have hA5 := hA4.kept hb5; obtain ⟨hp0, hp1, hp2, hp3, hp4, hp5, hp6, hp7, hp8, hp9, hp10⟩ := hA5.bc.cells; obtain ⟨hq0, hq1, hq2, hq3, hq4⟩ := hA5.be.cells; obtain ⟨hr0, hr1, hr2, hr3, hr4, hr5, hr6, hr7, hr8, hr9, hr10⟩ := hA5.bl.cells; obtain ⟨hs0, hs1, hs2, hs3, hs4⟩ := hA5.bo.cells; have hm := below_cell hb5 gm)))
  have HA := Lib.hid hA5
  clear hA0 hA1 hA2 hA3 hA4 hA5 hb1 hb2 hb3 hb4 hb5 hs2 hom u0 u1 i1 i2 i3 i4 i5 HK38 HK39 HK40 HK41 HK42
  clear ap0 ap1 ap2 ap3 ap4 ap5 ap6 ap7 ap8 ap9 ap10 aq0 aq1 aq2 aq3 aq4 ar0 ar1 ar2 ar3 ar4 ar5 ar6 ar7 ar8 ar9 ar10 as0 as1 as2 as3 as4 am
  clear bp0 bp1 bp2 bp3 bp4 bp5 bp6 bp7 bp8 bp9 bp10 bq0 bq1 bq2 bq3 bq4 br0 br1 br2 br3 br4 br5 br6 br7 br8 br9 br10 bs0 bs1 bs2 bs3 bs4 bm
  clear dp0 dp1 dp2 dp3 dp4 dp5 dp6 dp7 dp8 dp9 dp10 dq0 dq1 dq2 dq3 dq4 dr0 dr1 dr2 dr3 dr4 dr5 dr6 dr7 dr8 dr9 dr10 ds0 ds1 ds2 ds3 ds4 dm
  clear fp0 fp1 fp2 fp3 fp4 fp5 fp6 fp7 fp8 fp9 fp10 fq0 fq1 fq2 fq3 fq4 fr0 fr1 fr2 fr3 fr4 fr5 fr6 fr7 fr8 fr9 fr10 fs0 fs1 fs2 fs3 fs4 fm
  clear gp0 gp1 gp2 gp3 gp4 gp5 gp6 gp7 gp8 gp9 gp10 gq0 gq1 gq2 gq3 gq4 gr0 gr1 gr2 gr3 gr4 gr5 gr6 gr7 gr8 gr9 gr10 gs0 gs1 gs2 gs3 gs4 gm
  clear hp0 hp1 hp2 hp3 hp4 hp5 hp6 hp7 hp8 hp9 hp10 hq0 hq1 hq2 hq3 hq4 hr0 hr1 hr2 hr3 hr4 hr5 hr6 hr7 hr8 hr9 hr10 hs0 hs1 hs2 hs3 hs4 hm
  obtain ⟨r0, r1, r2, r3, r4, r5, r6, r7, r8, r9, r10⟩ := HA.out.bl.cells
  have u2 : jv = jv := rfl
  go_wp2_with fail
  refine (spoilt_any (Rn w1.heap.size w3.heap.size) l y5 HA.out.ml.mx (HA.out.ml.es' UL.out) (HA.out.ml.ws UW.out)).mono ?_
  rintro r0 y6 ⟨rfl, ho⟩
  have hs1 := HS1.out
  have hs2 := HS2.out
  have hs3 := HS3.out
  have hs4 := HS4.out
  have hs5 := HS5.out
  have hs6 := HS6.out
  have hs7 := HS7.out
  have hs8 := HS8.out
  have hgo := UO.out go rfl
  have HB6 := Lib.hid (show Bt w c d e ⟨oa, oi, oc, op, some ⟨go, 0, none⟩, ok, e.ws⟩ w4.heap.size w8.heap.size w7.heap.size y6 from
    Bt.only ⟨HA.out.bel, HA.out.bc, HA.out.be, HA.out.bo, HA.out.bd, HA.out.nd⟩ ho (fun k hk => by have := hk.1; omega) (fun hk => by have := hk.2; omega) (fun hk => by have := hk.2; omega) (fun k hk => by have := hk.2; omega))
  have hrow : ∃ cur : Array Value, y6.heap[go]? = some (.cells cur 3 (0, 0)) ∧ e.ws.length ≤ cur.size := by
    obtain ⟨g', cap', cur, hv, _, hr, hle', _, hsz', _⟩ := owns_cases HA.out.mo.row (by omega)
    injection hv with h1 h2 h3
    injection h1 with h1
    injection h1 with h1
    subst h1
    simp only at hle'
    exact ⟨cur, ho.row hr (fun hk => by have := hk.2; omega), by omega⟩
  obtain ⟨cur0, hrow0, hcur0⟩ := hrow
  have HR0 := Lib.hid hrow0
  have HC0 := Lib.hid hcur0
  have HGO := Lib.hid (show w.heap.size + 2 ≤ go ∧ go < w7.heap.size ∧ go ≠ w8.heap.size ∧ go ≠ w4.heap.size from ⟨by omega, by omega, by omega, rows_ne hrow0 HB6.out.bo (by decide)⟩)
  clear hs1 hs2 hs3 hs4 hs5 hs6 hs7 hs8 hgo ho hrow0 hcur0 r0 r1 r2 r3 r4 r5 r6 r7 r8 r9 r10 UL UW UO HAT HA HS1 HS2 HS3 HS4 HS5 HS6 HS7 HS8 HB2 HOM u2
  have hem := HE.out.mx
  have HEM := Lib.hid hem
  go_wp2
  go_loopw [14] (fun i wr => ∃ (q : Nat) (cur : Array Value), q ≤ e.ws.length ∧ i = .int .i64 q ∧ Bt w c d e ⟨oa, oi, oc, op, some ⟨go, 0, none⟩, ok, e.ws⟩ w4.heap.size w8.heap.size w7.heap.size wr ∧ wr.heap[go]? = some (.cells cur 3 (0, 0)) ∧ e.ws.length ≤ cur.size) (fun i _ => e.ws.length - (intOf i).toNat)
  case atStart => exact ⟨0, cur0, by omega, rfl, HB6.out, HR0.out, HC0.out⟩
  case round =>
    clear HB6 HR0 HC0
    obtain ⟨q, cur, hq, rfl, hbt, hr, hcs⟩ := hrel
    have HBT := Lib.hid hbt
    have HR := Lib.hid hr
    obtain ⟨s0, s1, s2, s3, s4⟩ := hbt.bo.cells
    clear hbt hr
    by_cases hlq : q < e.ws.length
    · have t0 : decide ((q : Int) < (e.ws.length : Int)) = true := by simp; omega
      have i2 : (q : Int) < (e.ws.length : Int) := by omega
      go_wp2_with ((with_reducible refine at_store_op ?_); refine wpList_store_lit 3 go q (segA cur.toList q [.int .i64 (-6)]) (.int .i64 (-6)) HR.out sz3 (by show q + 1 ≤ cur.size; omega) rfl rfl ?_ ?_ ?_; exact rfl; exact rfl; intro z3 hpz)
      have HZ := Lib.hid (HBT.out.only hpz.only (fun k hk => hk ▸ HGO.out.1) (fun hk => HGO.out.2.2.2 hk.symm) (fun hk => HGO.out.2.2.1 hk.symm) (fun k hk => hk ▸ HGO.out.2.1))
      have HZR := Lib.hid hpz.at'
      clear hpz
      go_roundw
      case rel => exact ⟨q + 1, _, by omega, by go_num, HZ.out, HZR.out, by rw [segA_size _ _ _ (by simp; omega)]; simpa using hcs⟩
      case measure => simp [intOf]; omega
    · have t0 : decide ((q : Int) < (e.ws.length : Int)) = false := by simp; omega
      obtain ⟨p0, p1, p2, p3, p4, p5, p6, p7, p8, p9, p10⟩ := HBT.out.bd.cells
      by_cases hj : jv = 0
      case neg =>
        have u1 : (jv != 0) = true := by simpa using hj
        have HZ := Lib.hid (show d.d = conZ.d by rw [HDD.out, if_neg hj])
        clear hj
        go_wp2_with fail
        refine (sameCon_true d conZ wr HBT.out.nd.ok (conZ_new 0 wr).ok HZ.out).mono ?_
        rintro r0 z1 ⟨rfl, hb⟩
        have HZB := Lib.hid (HBT.out.bel.trans (hb.mono HBT.out.bel.size))
        clear hb
        go_wp2
        go_ret
        exact ⟨rfl, HZB.out⟩
      case pos =>
        have u1 : (jv != 0) = false := by simpa using hj
        have HZ := Lib.hid (show d.d = joinD c e by rw [HDD.out, if_pos hj]; exact joinD_d HLD.out HOD.out)
        have HCL := Lib.hid (show c.es.length < 16 from joinV_len (HJV.out.trans hj))
        clear hj
        obtain ⟨u0, u1, u2, u3, u4, u5, u6, u7, u8, u9, u10⟩ := HBT.out.bc.cells
        go_wp2_with fail
        refine (twin_any c wr (HC.out.kept HBT.out.bel)).mono ?_
        rintro r0 z1 ⟨m, rfl, hmd, hmm, hb⟩
        have HMD := Lib.hid hmd
        have HMM := Lib.hid hmm
        have HB1 := Lib.hid hb
        have HML2 := Lib.hid (d_len (con_es hmd))
        clear hmd hmm hb u0 u1 u2 u3 u4 u5 u6 u7 u8 u9 u10 p0 p1 p2 p3 p4 p5 p6 p7 p8 p9 p10 s0 s1 s2 s3 s4 t0 HR HJV HDD HLD HOD
        have hcl := HCL.out
        have hml : m.es.length ≤ 16 := by have h1 := HML2.out; have h2 := HCL.out; omega
        go_wp2_with (first
          | ((with_reducible refine at_store_op ?_); refine wpList_store_lit 45 z1.heap.size 0 #[.int .i64 m.num, .int .i64 m.kind, .int .i64 m.by', .int .i64 m.dl, .int .i64 m.to', .int .i64 m.want, .int .u64 m.price, .int .u64 m.reserve, .int .u64 m.step, .int .i64 m.of', .slice m.ea m.es.length m.ec] (.agg #[.int .i64 m.num, .int .i64 m.kind, .int .i64 m.by', .int .i64 m.dl, .int .i64 m.to', .int .i64 m.want, .int .u64 m.price, .int .u64 m.reserve, .int .u64 m.step, .int .i64 m.of', .slice m.ea m.es.length m.ec]) (alloc_at rfl) szC (Nat.le_of_ble_eq_true rfl) rfl rfl ?_ ?_ ?_; exact rfl; exact rfl; intro z2 hp2
             have hb2 := hp2.below ((Below.refl z1.heap.size z1).alloc (Nat.le_refl _) _) ((Below.refl z1.heap.size z1).alloc (Nat.le_refl _) _).size (Nat.le_refl _)
             obtain ⟨p0, p1, p2, p3, p4, p5, p6, p7, p8, p9, p10⟩ := (show Box z2 z1.heap.size m from hp2.at').cells
             obtain ⟨q0, q1, q2, q3, q4⟩ := ((HBT.out.kept HB1.out).kept hb2).be.cells
             have HP2 := Lib.hid hp2
             have HB2 := Lib.hid hb2
             have HO2 := Lib.hid (show z2.ownsRow wr.heap.size 48 5 (.slice m.ea m.es.length m.ec) m.es.length (eFlat m.es) from owns_pre (ys := eFlat [mk77]) (by have := (HMM.out.kept hb2).row; rw [eFlat_append] at this; exact this) (eFlat_length m.es))
             have HS2 := Lib.hid (HB1.out.size)
             clear hp2 hb2)
          | (at_builtin; refine wpList_append_sl rfl _ _ 43 rfl wr.heap.size 48 (.agg #[.int .i64 0, .int .i64 0, .int .u64 0, .int .u64 0, .slice none 0 0]) 5 56 Try.underlying43 infoE rfl (by decide) (.slice m.ea m.es.length m.ec) m.es.length (eFlat m.es) rfl (HO2.out.alloc _) (some ⟨z2.heap.size, 0, none⟩) 1 1 (eFlat [e]) rfl (fun h => by cases h) ?x1 (sl_new _ _ _ _) (oneCell_eFlat _) ?x2 ?x3 ?x4 ?x5))
        case x1 => rfl
        case x2 => unfold maxLen; omega
        case x3 => omega
        case x4 => have := HS2.out; have := HB2.out.size; simp only [World.size_alloc]; omega
        intro v7 z3 ho7 hg7
        have hbz := (Below.refl z2.heap.size z2).alloc (Nat.le_refl _) (.cells #[.int .i64 e.acc, .int .i64 e.item, .int .u64 e.coins, .int .u64 e.price, .slice e.wa e.ws.length e.wc] 48)
        have ho6 := HO2.out.alloc (.cells #[.int .i64 e.acc, .int .i64 e.item, .int .u64 e.coins, .int .u64 e.price, .slice e.wa e.ws.length e.wc] 48)
        have hbw : Below wr.heap.size wr z2 := HB1.out.trans (HB2.out.mono HB1.out.size)
        have HB3 := Lib.hid (show Below wr.heap.size wr z3 from (hbw.trans (hbz.mono hbw.size)).grown hg7 (hbw.trans (hbz.mono hbw.size)).size (fun k hk => (ho6.lt k hk).1))
        have HM3 := Lib.hid (show ∀ x ∈ m.es, MarkE wr.heap.size z3 x from fun x hx => (((HMM.out.ents x hx).kept HB2.out).kept hbz).grown ho6 hg7)
        have hbx : Box z3 z1.heap.size m := row_past (alloc_old HP2.out.at') hg7 (fun h => by
          have h1 := (HO2.out.lt _ h.symm).1
          obtain ⟨g', cap', cur', hv, _, hr, _⟩ := owns_cases (HMM.out.kept HB2.out).row (by omega)
          injection hv with h2 h3 h4
          rw [h2] at h
          have h5 : z1.heap.size = g' := Option.some.inj h
          subst h5
          exact rows_ne hr HP2.out.at' (by decide) rfl)
        have HX3 := Lib.hid hbx
        have HO7 := Lib.hid (show z3.ownsRow wr.heap.size 48 5 v7 (m.es.length + 1) (eFlat (m.es ++ [e])) from by rw [eFlat_append]; exact ho7)
        obtain ⟨a7, c7, rfl, _⟩ := owns_slice HO7.out
        clear ho7 hg7 ho6 hbz hbw hbx p0 p1 p2 p3 p4 p5 p6 p7 p8 p9 p10 q0 q1 q2 q3 q4
        go_wp2_with ((with_reducible refine at_store_op ?_); refine wpList_store_lit 43 z1.heap.size 10 #[.int .i64 m.num, .int .i64 m.kind, .int .i64 m.by', .int .i64 m.dl, .int .i64 m.to', .int .i64 m.want, .int .u64 m.price, .int .u64 m.reserve, .int .u64 m.step, .int .i64 m.of', .slice a7 (m.es.length + 1) c7] (.slice a7 (m.es.length + 1) c7) HX3.out szEs (Nat.le_of_ble_eq_true rfl) rfl rfl ?_ ?_ ?_; exact rfl; exact rfl; intro z4 hp4)
        have HP4 := Lib.hid hp4
        clear hp4
        obtain ⟨more, hmore⟩ : ∃ x : Con, x = ⟨m.num, m.kind, m.by', m.dl, m.to', m.want, m.price, m.reserve, m.step, m.of', a7, c7, m.es ++ [e]⟩ := ⟨_, rfl⟩
        have hln : (m.es ++ [e]).length = m.es.length + 1 := by rw [List.length_append]; rfl
        have HX4 := Lib.hid (show Box z4 z1.heap.size more from by rw [hmore]; unfold Box; simp only [hln]; exact HP4.out.at')
        have HB4 := Lib.hid (HP4.out.below HB3.out HB3.out.size HS2.out)
        have hne : (Value.slice a7 (m.es.length + 1) c7).ownBlock ≠ some z1.heap.size := fun h => by
          obtain ⟨g', cap', cur', hv, _, hr, _⟩ := owns_cases HO7.out (by omega)
          injection hv with h2 h3 h4
          rw [h2] at h
          have h5 : g' = z1.heap.size := Option.some.inj h
          subst h5
          exact rows_ne hr HX3.out (by decide) rfl
        have ho8 := HO7.out.kept HP4.out.grown (.inr hne)
        have HT4 := Lib.hid (HBT.out.kept HB4.out)
        have HCM := Lib.hid (show ConOk z4 more from by
          obtain ⟨a', c', hv, hn, hs, hle⟩ := owns_slice ho8
          injection hv with h1 h2 h3
          subst h1 h3
          rw [hmore]
          refine ⟨hs, fun x hx => ?_, by simp only [hln]; exact hle, by simp only [hln]; omega, fun e => by simp only [hln]; exact hn e⟩
          rcases List.mem_append.1 hx with h | h
          · have h8 := HM3.out x h
            refine MarkE.ok (B := wr.heap.size) ⟨h8.row.kept HP4.out.grown (.inr (fun hh => ?_)), h8.mx, h8.wf, h8.iw, h8.cw, h8.pw⟩
            obtain ⟨g', cap', cur', hv, _, hr, _⟩ := owns_cases h8.row (by omega)
            injection hv with h2 h3 h4
            rw [h2] at hh
            have h5 : g' = z1.heap.size := Option.some.inj hh
            subst h5
            exact rows_ne hr HX3.out (by decide) rfl
          · rw [List.mem_singleton] at h
            subst h
            exact HE.out.kept HT4.out.bel)
        have HMD2 := Lib.hid (show d.d = more.d from by
          rw [HZ.out, hmore]
          have h1 := HMD.out
          have h2 := con_es h1
          simp only [Con.d, Prod.mk.injEq] at h1
          obtain ⟨⟨h1, h2', h3, h4, h5⟩, ⟨h6, h7, h8, h9, h10⟩, _⟩ := h1
          simp only [Con.d, joinD, List.map_append, h2, h1, h2', h3, h4, h5, h6, h7, h8, h9, h10]
          rfl)
        have HND := Lib.hid (show d.es.length ≤ 3000 from by
          have h1 := d_len (con_es HMD2.out)
          have h3 := HML2.out
          have h4 := HCL.out
          have h2 : more.es.length = m.es.length + 1 := by rw [hmore]; exact hln
          omega)
        have HK44 := Lib.hid (fun V (hV : Below z4.heap.size z4 V) => sameCon_true d more V (HT4.out.nd.ok.kept hV) (HCM.out.kept hV) HMD2.out)
        have HK28 := Lib.hid (fun V (hV : Below z4.heap.size z4 V) => show Calls Try.prog 28 #[d.agg] V fun r V' => ∃ a1 c1 G, r = .returned (.slice a1 (endG d.es (d.es.map Ent.item) G d.es.length).length c1) ∧ Sl V' a1 (gFlat (endG d.es (d.es.map Ent.item) G d.es.length)) ∧ Got (mIs (d.es.map Ent.item) d.es.length) ((mWs d.es (d.es.map Ent.item) d.es.length).map Wl.l) G ∧ Below V.heap.size V V' from by
          refine (end_any d V (HT4.out.nd.ok.kept hV) HND.out).mono ?_
          rintro r V' ⟨v, G', rfl, hgot, hown, hb⟩
          obtain ⟨a1, c1, rfl, _, hsl, _⟩ := owns_slice hown
          exact ⟨a1, c1, G', rfl, hsl, hgot, hb⟩)
        have HK40 := Lib.hid (fun V (G : Nat → Int) (hG : Got (mIs (d.es.map Ent.item) d.es.length) ((mWs d.es (d.es.map Ent.item) d.es.length).map Wl.l) G) (hV : Below z4.heap.size z4 V) => show Calls Try.prog 40 #[more.agg] V fun r V' => ∃ a2 c2, r = .returned (.slice a2 (endG d.es (d.es.map Ent.item) G d.es.length).length c2) ∧ Sl V' a2 (gFlat (endG d.es (d.es.map Ent.item) G d.es.length)) ∧ Below V.heap.size V V' from by
          refine (rend_any more V (HCM.out.kept hV) (by rw [← d_len (con_es HMD2.out)]; exact HND.out)).mono ?_
          rintro r V' ⟨v, G', rfl, hgot, hown, hb⟩
          obtain ⟨a2, c2, rfl, _, hsl, _⟩ := owns_slice hown
          rw [← ends_same (con_es HMD2.out) hG hgot] at hsl ⊢
          exact ⟨a2, c2, rfl, hsl, hb⟩)
        have HK39 := Lib.hid (fun V (a1 : Option Addr) (c1 : Nat) (a2 : Option Addr) (c2 : Nat) (G : Nat → Int) (h1 : Sl V a1 (gFlat (endG d.es (d.es.map Ent.item) G d.es.length))) (h2 : Sl V a2 (gFlat (endG d.es (d.es.map Ent.item) G d.es.length))) => show Calls Try.prog 39 #[.slice a1 (endG d.es (d.es.map Ent.item) G d.es.length).length c1, .slice a2 (endG d.es (d.es.map Ent.item) G d.es.length).length c2] V fun r V' => r = .returned (.bool true) ∧ Below V.heap.size V V' from
          (gifts_true a1 a2 c1 c2 _ V (by have := endG_len d.es (d.es.map Ent.item) G d.es.length; have := HND.out; omega) h1 h2).mono (fun r V' h => ⟨h.1, h.2.below _⟩))
        unfold Con.agg at HK44 HK28 HK40
        have hD0 := (show Below z4.heap.size z4 z4.drew from (Qt.drewN _ 1).below _)
        obtain ⟨p0, p1, p2, p3, p4, p5, p6, p7, p8, p9, p10⟩ := HT4.out.bd.cells
        obtain ⟨u0, u1, u2, u3, u4, u5, u6, u7, u8, u9, u10⟩ := HX4.out.cells
        clear hmore hln hne ho8 hcl hml HP4 HX3 HM3 HO7 HMM HMD HZ
        go_wp2
        go_region_held3 (fun V => V.cell? ⟨w8.heap.size, 0, none⟩ = some (.int .i64 d.num) ∧ V.cell? ⟨w8.heap.size, 1, none⟩ = some (.int .i64 d.kind) ∧ V.cell? ⟨w8.heap.size, 2, none⟩ = some (.int .i64 d.by') ∧ V.cell? ⟨w8.heap.size, 3, none⟩ = some (.int .i64 d.dl) ∧ V.cell? ⟨w8.heap.size, 4, none⟩ = some (.int .i64 d.to') ∧ V.cell? ⟨w8.heap.size, 5, none⟩ = some (.int .i64 d.want) ∧ V.cell? ⟨w8.heap.size, 6, none⟩ = some (.int .u64 d.price) ∧ V.cell? ⟨w8.heap.size, 7, none⟩ = some (.int .u64 d.reserve) ∧ V.cell? ⟨w8.heap.size, 8, none⟩ = some (.int .u64 d.step) ∧ V.cell? ⟨w8.heap.size, 9, none⟩ = some (.int .i64 d.of') ∧ V.cell? ⟨w8.heap.size, 10, none⟩ = some (.slice d.ea d.es.length d.ec) ∧ V.cell? ⟨z1.heap.size, 0, none⟩ = some (.int .i64 more.num) ∧ V.cell? ⟨z1.heap.size, 1, none⟩ = some (.int .i64 more.kind) ∧ V.cell? ⟨z1.heap.size, 2, none⟩ = some (.int .i64 more.by') ∧ V.cell? ⟨z1.heap.size, 3, none⟩ = some (.int .i64 more.dl) ∧ V.cell? ⟨z1.heap.size, 4, none⟩ = some (.int .i64 more.to') ∧ V.cell? ⟨z1.heap.size, 5, none⟩ = some (.int .i64 more.want) ∧ V.cell? ⟨z1.heap.size, 6, none⟩ = some (.int .u64 more.price) ∧ V.cell? ⟨z1.heap.size, 7, none⟩ = some (.int .u64 more.reserve) ∧ V.cell? ⟨z1.heap.size, 8, none⟩ = some (.int .u64 more.step) ∧ V.cell? ⟨z1.heap.size, 9, none⟩ = some (.int .i64 more.of') ∧ V.cell? ⟨z1.heap.size, 10, none⟩ = some (.slice more.ea more.es.length more.ec)) (go_keep)
          ((first
            | (go_at_call 44; (with_reducible refine (HK44.out _ hD0).mono ?_); rintro r1 y1 ⟨rfl, hb1⟩; have hD1 := hD0.trans (hb1.mono hD0.size); obtain ⟨ap0, ap1, ap2, ap3, ap4, ap5, ap6, ap7, ap8, ap9, ap10⟩ := (HT4.out.bd.kept hD1).cells; obtain ⟨au0, au1, au2, au3, au4, au5, au6, au7, au8, au9, au10⟩ := (HX4.out.kept hD1).cells)
            | (go_at_call 28; (with_reducible refine (HK28.out _ hD1).mono ?_); rintro r2 y2 ⟨a1, c1, G2, rfl, hsl1, hgot2, hb2⟩; have hD2 := hD1.trans (hb2.mono hD1.size); obtain ⟨bp0, bp1, bp2, bp3, bp4, bp5, bp6, bp7, bp8, bp9, bp10⟩ := (HT4.out.bd.kept hD2).cells; obtain ⟨bu0, bu1, bu2, bu3, bu4, bu5, bu6, bu7, bu8, bu9, bu10⟩ := (HX4.out.kept hD2).cells)
            | (go_at_call 40; (with_reducible refine (HK40.out _ G2 hgot2 hD2).mono ?_); rintro r3 y3 ⟨a2, c2, rfl, hsl2, hb3⟩; have hD3 := hD2.trans (hb3.mono hD2.size); have hsl1' := hsl1.kept hb3; obtain ⟨dp0, dp1, dp2, dp3, dp4, dp5, dp6, dp7, dp8, dp9, dp10⟩ := (HT4.out.bd.kept hD3).cells; obtain ⟨du0, du1, du2, du3, du4, du5, du6, du7, du8, du9, du10⟩ := (HX4.out.kept hD3).cells)
            | (go_at_call 39; (with_reducible refine (HK39.out _ a1 c1 a2 c2 G2 hsl1' hsl2).mono ?_); rintro r4 y4 ⟨rfl, hb4⟩; have hD4 := hD3.trans (hb4.mono hD3.size); obtain ⟨fp0, fp1, fp2, fp3, fp4, fp5, fp6, fp7, fp8, fp9, fp10⟩ := (HT4.out.bd.kept hD4).cells; obtain ⟨fu0, fu1, fu2, fu3, fu4, fu5, fu6, fu7, fu8, fu9, fu10⟩ := (HX4.out.kept hD4).cells)))
        have HFIN := Lib.hid (HT4.out.bel.trans (hD4.mono HT4.out.bel.size))
        clear hD0 hD1 hD2 hD3 hD4 hb1 hb2 hb3 hb4
        go_wp2
        go_ret
        exact ⟨rfl, HFIN.out⟩
theorem own : ownKnob Try.prog.godebug = none := by kernel_rfl
theorem laidOut : laidOutB Try.prog = true := by kernel_rfl
set_option maxRecDepth 100000 in
theorem lifted (os : Os) (started : os.Started) (H : Type) (enc : TypeId × Value → H) :
    ReturnsInHanded {} Try.checked os 9 .any (Rows.barterContractsSpec.pre6 enc Try.prog Try.f9 Rows.barterContractsRow.domain false) (Rows.barterContractsSpec.post enc Try.prog Try.f9 false true false false) := by
  refine returnsInHanded_of_change_sized (C := Try.checked) own started (by kernel_rfl) Try.func9
    (ChangeSpec.witness6 (enc := enc) (C := Try.checked) false ⟨#[], #[.agg #[.int .i64 0, .int .i64 0, .int .i64 0, .int .i64 0, .int .i64 0, .int .i64 0, .int .u64 0, .int .u64 0, .int .u64 0, .int .i64 0, .slice none 0 0], .agg #[.int .i64 0, .int .i64 0, .int .u64 0, .int .u64 0, .slice none 0 0]], []⟩ 8 (by kernel_rfl) (by kernel_rfl) (by kernel_rfl) (by kernel_rfl)) ?_
  intro W base args ds gs before hval0 hW hcnd hsz0 _
  have hsz : (DataW.weightsEach Try.prog (Try.f9.params.toList ++ Rows.barterContractsSpec.plain.varTypes Try.prog) (ds ++ gs)).all (· ≤ reachBytes) = true := hsz0
  clear hsz0
  have hval : ∀ (j : Nat) t v, Try.f9.params[j]? = some t → args[j]? = some v → Value.okWide Try.prog W .any base t v := hval0
  have hW' := hW
  obtain ⟨p, q, hA0, hV, rfl, hfz, hnd⟩ := hW
  have hA : DataW.TrodAll enc Try.prog W 0 (fun _ => true) true Try.f9.params.toList args.toList ds p := hA0
  rw [Try.params9] at hA hval hsz
  obtain ⟨v0, vs0, d0, ds0, p0, q0, hargs, rfl, rfl, h0, r0⟩ := trodAll_cons hA
  obtain ⟨v1, vs1, d1, ds1, p1, q1, rfl, rfl, rfl, h1, r1⟩ := trodAll_cons r0
  obtain ⟨rfl, rfl, rfl⟩ := trodAll_nil r1
  obtain rfl : args = #[v0, v1] := by cases args; simp_all
  obtain ⟨rfl, rfl⟩ := trodVars_none hV
  have k0 := h0
  have lt0 : ∀ x ∈ p0, x.block < W.heap.size := by obtain ⟨m, hm⟩ := k0; exact DataW.trod_lt m _ _ _ hm
  obtain ⟨c0, rfl, n0⟩ := open_con (hval 0 45 v0 rfl rfl) h0 hsz (j := 0) rfl rfl
  have k1 := h1
  have lt1 : ∀ x ∈ p1, x.block < W.heap.size := by obtain ⟨m, hm⟩ := k1; exact DataW.trod_lt m _ _ _ hm
  obtain ⟨c1, rfl, n1⟩ := open_ent (hval 1 48 v1 rfl rfl) h1 hsz (j := 1) rfl rfl
  clear hA0 hval0
  refine (walk c0 c1 W n0 n1).mono fun e W' ⟨he, bel⟩ => ?_
  subst he
  exact ⟨_, rfl, _, _, _, [], _, [], hW', trodAll_mk1 (shut_bool Try.underlying4 _), (trodAll_cons_mk (Below.trod laidOut (by kernel_rfl) (of_decide_eq_true (by kernel_rfl)) k0 bel lt0) (trodAll_cons_mk (Below.trod laidOut (by kernel_rfl) (of_decide_eq_true (by kernel_rfl)) k1 bel lt1) trodAll_mk0)), rfl, bel.frame _, fun h => by cases h⟩
theorem over : Rows.barterContractsRow.holds Try.pinned (OpenSpec.ofChange Rows.barterContractsSpec) :=
  OpenClaim.holds_of_wide 9 Try.f9 rfl rfl rfl rfl rfl rfl rfl ⟨rfl, rfl, rfl, rfl, rfl⟩ rfl rfl rfl rfl rfl (by kernel_rfl) Try.func9 (by kernel_rfl)
    (of_decide_eq_true (by kernel_rfl)) (by unfold Func.isWrapper; first | (rw [if_pos (by decide +kernel)]; kernel_rfl) | (rw [if_neg (by decide +kernel)]; exact ⟨rfl, rfl⟩))
    (fun os started H enc _ => lifted os started H enc)
theorem proved : Rows.BarterContractsSaid := over
#print axioms proved
end Go.Proofs.Ytpikmcapnmdmbaa.lawBarterContracts
