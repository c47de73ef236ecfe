/-
  Of whatever contract: what End gives out, what Back gives out, is just what the entries hold; what Join gives out and what is held behind it is what was held ahead of it, and the new entry.
  No condition beyond the statement's own.
-/
import Derived.Test.YtpejcndfplbikaaOb
import Derived.Test.YtpejcndfplbikaaOc
import Derived.Test.YtpejcndfplbikaaOd
import Derived.Test.YtpejcndfplbikaaMh
import Derived.Deep.RegionHeld3
namespace Go.Proofs.Ytpejcndfplbikaa.lawAuctionAll
open Go.RowKit Go.K Go.Maps Go.ChangeShapes Go.WideShapes Go.ChangeAt
set_option linter.unusedVariables false
set_option linter.unusedSimpArgs false
/-- What stands behind the first three lines. -/
structure A1 (w : World) (c : Con) (e : Ent) (g b : Nat) (S : Int) (L : List Int) (a1 a2 : Option Addr) (l1 l2 : List Gi) (V : World) : Prop where
  cb : Cb w c e V
  sb : SBox V g b S
  cn : ∃ n, n < 500000000000000 ∧ Cnt V b n L
  s1 : Sl V a1 (gFlat l1)
  s2 : Sl V a2 (gFlat l2)
theorem A1.kept {w : World} {c : Con} {e : Ent} {g b : Nat} {S : Int} {L : List Int} {a1 a2 : Option Addr} {l1 l2 : List Gi} {V V' : World} (h : A1 w c e g b S L a1 a2 l1 l2 V) (hb : Below V.heap.size V V') : A1 w c e g b S L a1 a2 l1 l2 V' :=
  ⟨h.cb.kept hb, row_kept h.sb hb, h.cn.imp (fun n hn => ⟨hn.1, hn.2.below hb⟩), h.s1.kept hb, h.s2.kept hb⟩
structure A2 (w : World) (c : Con) (e : Ent) (g b : Nat) (S : Int) (L : List Int) (a1 a2 : Option Addr) (l1 l2 : List Gi) (m B : Nat) (d : Con) (ad : Option Addr) (G : List Gi) (V : World) : Prop where
  a1 : A1 w c e g b S L a1 a2 l1 l2 V
  bd : Box V m d
  nd : NewC B V d
  sg : Sl V ad (gFlat G)
theorem A2.kept {w : World} {c : Con} {e : Ent} {g b : Nat} {S : Int} {L : List Int} {a1 a2 : Option Addr} {l1 l2 : List Gi} {m B : Nat} {d : Con} {ad : Option Addr} {G : List Gi} {V V' : World} (h : A2 w c e g b S L a1 a2 l1 l2 m B d ad G V) (hb : Below V.heap.size V V') : A2 w c e g b S L a1 a2 l1 l2 m B d ad G V' :=
  ⟨h.a1.kept hb, h.bd.kept hb, h.nd.kept hb, h.sg.kept hb⟩
theorem A2.cells {w : World} {c : Con} {e : Ent} {g b : Nat} {S : Int} {L : List Int} {a1 a2 : Option Addr} {l1 l2 : List Gi} {m B : Nat} {d : Con} {ad : Option Addr} {G : List Gi} {V : World} (h : A2 w c e g b S L a1 a2 l1 l2 m B d ad G V) :
    V.cell? ⟨m, 10, none⟩ = some (.slice d.ea d.es.length d.ec) ∧ V.cell? ⟨g, 0, none⟩ = some (.map (some b)) ∧ V.cell? ⟨g, 1, none⟩ = some (.int .u64 (cH S)) ∧ V.cell? ⟨g, 2, none⟩ = some (.int .u64 (cL S)) ∧
    V.cell? ⟨w.heap.size + 1, 0, none⟩ = some (.int .i64 e.acc) ∧ V.cell? ⟨w.heap.size + 1, 1, none⟩ = some (.int .i64 e.item) ∧ V.cell? ⟨w.heap.size + 1, 2, none⟩ = some (.int .u64 e.coins) ∧ V.cell? ⟨w.heap.size + 1, 3, none⟩ = some (.int .u64 e.price) ∧ V.cell? ⟨w.heap.size + 1, 4, none⟩ = some (.slice e.wa e.ws.length e.wc) :=
  ⟨h.bd.cells.2.2.2.2.2.2.2.2.2.2, (cells3 h.a1.sb).1, (cells3 h.a1.sb).2.1, (cells3 h.a1.sb).2.2, (cells5 h.a1.cb.be).1, (cells5 h.a1.cb.be).2.1, (cells5 h.a1.cb.be).2.2.1, (cells5 h.a1.cb.be).2.2.2.1, (cells5 h.a1.cb.be).2.2.2.2⟩
theorem given_as {a : Option Addr} {cap : Nat} {l : List Gi} {V : World} {S : Int} {L : List Int} (hs : Sl V a (gFlat l)) (hw : WfG l) (hm : l.length ≤ 5864062014634) (hL : nzI (gIs l) = L) (hS : (gCs l).sum = S) :
    Calls Try.prog 28 #[.slice a l.length cap] V fun r w' => ∃ b, r = .returned (.agg #[.map (some b), .int .u64 (cH S), .int .u64 (cL S)]) ∧ (∃ n, n < 500000000000000 ∧ Cnt w' b n L) ∧ Below V.heap.size V w' := by
  subst hL hS
  exact (given_any a cap l V hs hw hm).mono (fun r w' ⟨b, h1, h2, h3, h4⟩ => ⟨b, h1, ⟨l.length, by omega, h3⟩, h4⟩)
theorem held_as {a : Option Addr} {cap : Nat} {l : List Ent} {V : World} {S : Int} {L : List Int} (hs : Sl V a (eFlat l)) (hw : ∀ e ∈ l, EntOk V e) (hm : l.length ≤ 2513169434843) (hL : nzI (dIs (l.map Ent.d)) = L) (hS : (dCs (l.map Ent.d)).sum = S) :
    Calls Try.prog 26 #[.slice a l.length cap] V fun r w' => ∃ b, r = .returned (.agg #[.map (some b), .int .u64 (cH S), .int .u64 (cL S)]) ∧ (∃ n, n < 500000000000000 ∧ Cnt w' b n L) ∧ Below V.heap.size V w' := by
  subst hL hS
  rw [← ent_items, ← ent_coins]
  exact (held_any a cap l V hs hw hm).mono (fun r w' ⟨b, h1, h2, h3, h4⟩ => ⟨b, h1, ⟨l.length, by omega, h3⟩, h4⟩)
theorem both_as {b1 b2 : Nat} {V : World} {S1 S2 : Int} {L1 L2 : List Int} (h1 : ∃ n, n < 500000000000000 ∧ Cnt V b1 n L1) (h2 : ∃ n, n < 500000000000000 ∧ Cnt V b2 n L2) (hl : L1.length + L2.length < 1000000000000000) :
    Calls Try.prog 30 #[.agg #[.map (some b1), .int .u64 (cH S1), .int .u64 (cL S1)], .agg #[.map (some b2), .int .u64 (cH S2), .int .u64 (cL S2)]] V fun r w' => ∃ b, r = .returned (.agg #[.map (some b), .int .u64 (cH (S1 + S2)), .int .u64 (cL (S1 + S2))]) ∧ (∃ n, Cnt w' b n (L1 ++ L2)) ∧ Below V.heap.size V w' := by
  obtain ⟨n1, q1, k1⟩ := h1
  obtain ⟨n2, q2, k2⟩ := h2
  exact (both_any b1 b2 n1 n2 L1 L2 S1 S2 V k1 k2 (by omega) hl).mono (fun r w' ⟨b, h1, h2, h3, h4⟩ => ⟨b, h1, ⟨_, h3⟩, h4⟩)
theorem alike_as {b1 b2 : Nat} {V : World} {S1 S2 : Int} {L1 L2 : List Int} (h1 : ∃ n, Cnt V b1 n L1) (h2 : ∃ n, Cnt V b2 n L2) (hp : L1.Perm L2) (hs : S1 = S2) :
    Calls Try.prog 27 #[.agg #[.map (some b1), .int .u64 (cH S1), .int .u64 (cL S1)], .agg #[.map (some b2), .int .u64 (cH S2), .int .u64 (cL S2)]] V fun r w' => r = .returned (.bool true) ∧ Below V.heap.size V w' := by
  obtain ⟨n1, k1⟩ := h1
  obtain ⟨n2, k2⟩ := h2
  subst hs
  exact alike_true b1 b2 n1 n2 L1 L2 S1 V k1 k2 hp
theorem cnt_keep {V W : World} {b : Nat} {L : List Int} (h : ∃ n, n < 500000000000000 ∧ Cnt V b n L) (hb : Below V.heap.size V W) : ∃ n, n < 500000000000000 ∧ Cnt W b n L := h.imp (fun n hn => ⟨hn.1, hn.2.below hb⟩)
theorem cnt_keep' {V W : World} {b : Nat} {L : List Int} (h : ∃ n, Cnt V b n L) (hb : Below V.heap.size V W) : ∃ n, Cnt W b n L := h.imp (fun n hn => hn.below hb)
set_option maxRecDepth 100000 in
set_option maxHeartbeats 8000000 in
theorem walk (c : Con) (e : Ent) (w : World) (hc : ConOk w c) (hres : (Lit.int .u64 c.reserve).wf = true) (he : EntOk w e) : Calls Try.prog 5 #[c.agg, e.agg] w fun r w' => r = .returned (.bool true) ∧ Below w.heap.size w w' := by
  have HC := Lib.hid hc
  have HE := Lib.hid he
  have HWD := Lib.hid (wfD_of hc.ents)
  have HRS := Lib.hid (u64_range hres).1
  clear hc he hres
  unfold Con.agg Ent.agg
  go_enter Try.func5, Try.ntmps5
  go_wp2_with fail
  obtain ⟨w0, hw0⟩ : ∃ W, W = (w.alloc (.cells #[.int .i64 c.num, .int .i64 c.kind, .int .i64 c.by', .int .i64 c.dl, .int .i64 c.to', .int .i64 c.want, .int .u64 c.price, .int .u64 c.reserve, .int .u64 c.step, .int .i64 c.of', .slice c.ea c.es.length c.ec] 25)).alloc (.cells #[.int .i64 e.acc, .int .i64 e.item, .int .u64 e.coins, .int .u64 e.price, .slice e.wa e.ws.length e.wc] 33) := ⟨_, rfl⟩
  have HCB0 := Lib.hid (show Cb w c e w0 by rw [hw0]; exact ⟨((Below.refl _ _).alloc (Nat.le_refl _) _).alloc (by simp) _, alloc_old (alloc_at rfl), alloc_at (by simp)⟩)
  rw [← hw0]
  clear hw0
  refine (known_any w0).mono ?_
  rintro r0 w1 ⟨rfl, hb⟩
  have HCB := Lib.hid (HCB0.out.kept hb)
  clear hb HCB0
  have HK9 := Lib.hid (fun V (h : Cb w c e V) => lent_piece c V (HC.out.kept h.bel))
  have HK17 := Lib.hid (fun r l V (h : LentC r c V l) => end_piece r l c V h)
  have HK19 := Lib.hid (fun r l V (h : LentC r c V l) => back_piece r l c V h)
  unfold Con.agg at HK9 HK17 HK19
  have HLE := Lib.hid (show (endL c.kind c.reserve (c.es.map Ent.d)).length ≤ 5864062014634 by have := endL_le c.kind c.reserve (c.es.map Ent.d); have := HC.out.mx; rw [List.length_map] at *; omega)
  have HLB := Lib.hid (show (backP (c.es.map Ent.d) c.es.length).length ≤ 5864062014634 by have := backP_le (c.es.map Ent.d) c.es.length; have := HC.out.mx; omega)
  have HIE := Lib.hid (endL_items c.kind c.reserve (c.es.map Ent.d) HWD.out HRS.out)
  have HIB := Lib.hid (show nzI (gIs (backP (c.es.map Ent.d) c.es.length)) = nzI (dIs (c.es.map Ent.d)) ∧ (gCs (backP (c.es.map Ent.d) c.es.length)).sum = (dCs (c.es.map Ent.d)).sum by
    have h := back_items (c.es.map Ent.d) c.es.length (by simp)
    rwa [List.take_of_length_le (by simp)] at h)
  have HWE := Lib.hid (endL_wf c.kind c.reserve (c.es.map Ent.d) HWD.out HRS.out)
  have HWB := Lib.hid (back_wf HWD.out c.es.length)
  have HFE := Lib.hid (endL_full c.kind c.reserve (c.es.map Ent.d))
  have HFB := Lib.hid (backP_full (c.es.map Ent.d) c.es.length)
  generalize endL c.kind c.reserve (c.es.map Ent.d) = eL at *
  generalize backP (c.es.map Ent.d) c.es.length = bL at *
  obtain ⟨a0, a1, a2, a3, a4, a5, a6, a7, a8, a9, a10⟩ := (HCB.out.bc).cells
  go_wp2
  have hA0 : Cb w c e w1.drew := HCB.out.kept ((Qt.drewN w1 1).below _)
  go_region_held3 (fun V => V.cell? ⟨w.heap.size, 0, none⟩ = some (.int .i64 c.num) ∧ V.cell? ⟨w.heap.size, 1, none⟩ = some (.int .i64 c.kind) ∧ V.cell? ⟨w.heap.size, 2, none⟩ = some (.int .i64 c.by') ∧ V.cell? ⟨w.heap.size, 3, none⟩ = some (.int .i64 c.dl) ∧ V.cell? ⟨w.heap.size, 4, none⟩ = some (.int .i64 c.to') ∧ V.cell? ⟨w.heap.size, 5, none⟩ = some (.int .i64 c.want) ∧ V.cell? ⟨w.heap.size, 6, none⟩ = some (.int .u64 c.price) ∧ V.cell? ⟨w.heap.size, 7, none⟩ = some (.int .u64 c.reserve) ∧ V.cell? ⟨w.heap.size, 8, none⟩ = some (.int .u64 c.step) ∧ V.cell? ⟨w.heap.size, 9, none⟩ = some (.int .i64 c.of') ∧ V.cell? ⟨w.heap.size, 10, none⟩ = some (.slice c.ea c.es.length c.ec)) (go_keep)
    ((first
      | (go_at_call 9; (with_reducible refine (HK9.out _ hA0).mono ?_); rintro r1 y1 ⟨l1, rfl, hl1, hb1⟩; have hA1 := hA0.kept hb1; obtain ⟨b0, b1, b2, b3, b4, b5, b6, b7, b8, b9, b10⟩ := (hA1.bc).cells)
      | (go_at_call 17; (with_reducible refine (HK17.out _ _ _ hl1).mono ?_); rintro r2 y2 ⟨⟨aq2, cq2, rfl, ho2⟩, hb2⟩; have hA2 := hA1.kept hb2; obtain ⟨d0, d1, d2, d3, d4, d5, d6, d7, d8, d9, d10⟩ := (hA2.bc).cells)
      | (go_at_call 9; (with_reducible refine (HK9.out _ hA2).mono ?_); rintro r3 y3 ⟨l3, rfl, hl3, hb3⟩; have hA3 := hA2.kept hb3; have hs2 := (own_sl (owns_below (B := 0) ho2 hb3)).2; obtain ⟨f0, f1, f2, f3, f4, f5, f6, f7, f8, f9, f10⟩ := (hA3.bc).cells)
      | (go_at_call 19; (with_reducible refine (HK19.out _ _ _ hl3).mono ?_); rintro r4 y4 ⟨⟨aq4, cq4, rfl, ho4⟩, hb4⟩; have hA4 := hA3.kept hb4; have hs2' := hs2.kept hb4; have hs4 := (own_sl ho4).2; obtain ⟨g0, g1, g2, g3, g4, g5, g6, g7, g8, g9, g10⟩ := (hA4.bc).cells)))
  have HCB4 := Lib.hid hA4
  have HS2 := Lib.hid hs2'
  have HS4 := Lib.hid hs4
  clear hA0 hA1 hA2 hA3 hA4 hb1 hb2 hb3 hb4 hl1 hl3 ho2 ho4 hs2 hs2' hs4 HK9 HK17 HK19 HCB a0 a1 a2 a3 a4 a5 a6 a7 a8 a9 a10 b0 b1 b2 b3 b4 b5 b6 b7 b8 b9 b10 d0 d1 d2 d3 d4 d5 d6 d7 d8 d9 d10 f0 f1 f2 f3 f4 f5 f6 f7 f8 f9 f10
  go_wp2_with fail
  clear g0 g1 g2 g3 g4 g5 g6 g7 g8 g9 g10
  refine (held_as (L := nzI (dIs (c.es.map Ent.d))) (S := (dCs (c.es.map Ent.d)).sum) (HC.out.kept HCB4.out.bel).sl (HC.out.kept HCB4.out.bel).ents HC.out.mx rfl rfl).mono ?_
  rintro r5 y5 ⟨b, rfl, hcn, hb⟩
  have HLL := Lib.hid (show (nzI (dIs (c.es.map Ent.d))).length ≤ 2513169434843 by have h := nzI_len (dIs (c.es.map Ent.d)); unfold dIs at h; rw [List.length_map, List.length_map] at h; have := HC.out.mx; unfold dIs; omega)
  have HJI := Lib.hid (fun hj : c.joinV' e = 0 => join_items c e hj)
  generalize hL0 : nzI (dIs (c.es.map Ent.d)) = L0 at *
  generalize hS0 : (dCs (c.es.map Ent.d)).sum = S0 at *
  clear hL0 hS0
  go_wp2_with fail
  obtain ⟨V1, hV1⟩ : ∃ W, W = y5.alloc (.cells #[.map (some b), .int .u64 (cH S0), .int .u64 (cL S0)] 52) := ⟨_, rfl⟩
  have HA1 := Lib.hid (show A1 w c e y5.heap.size b S0 L0 aq2 aq4 eL bL V1 by
    have h1 : Below y5.heap.size y5 V1 := by rw [hV1]; exact (Below.refl _ _).alloc (Nat.le_refl _) _
    exact ⟨(HCB4.out.kept hb).kept h1, by rw [hV1]; exact alloc_at rfl, hcn.imp (fun n hn => ⟨hn.1, hn.2.below h1⟩), (HS2.out.kept hb).kept h1, (HS4.out.kept hb).kept h1⟩)
  rw [← hV1]
  clear hV1 hcn hb HCB4 HS2 HS4
  have HK28e := Lib.hid (fun V (h : A1 w c e y5.heap.size b S0 L0 aq2 aq4 eL bL V) => given_as (cap := cq2) h.s1 HWE.out HLE.out HIE.out.1 HIE.out.2)
  have HK28b := Lib.hid (fun V (h : A1 w c e y5.heap.size b S0 L0 aq2 aq4 eL bL V) => given_as (cap := cq4) h.s2 HWB.out HLB.out HIB.out.1 HIB.out.2)
  have HK27 := Lib.hid (fun V b1 (h : A1 w c e y5.heap.size b S0 L0 aq2 aq4 eL bL V) (hc : ∃ n, n < 500000000000000 ∧ Cnt V b1 n L0) => alike_as (S1 := S0) (S2 := S0) (hc.imp (fun n h => h.2)) (h.cn.imp (fun n h => h.2)) (List.Perm.refl L0) rfl)
  have HK29e := Lib.hid (fun V (h : A1 w c e y5.heap.size b S0 L0 aq2 aq4 eL bL V) => full_true aq2 cq2 eL V HLE.out h.s1 HFE.out)
  have HK29b := Lib.hid (fun V (h : A1 w c e y5.heap.size b S0 L0 aq2 aq4 eL bL V) => full_true aq4 cq4 bL V HLB.out h.s2 HFB.out)
  obtain ⟨g0, g1, g2⟩ := cells3 HA1.out.sb
  go_wp2
  have hA0 : A1 w c e y5.heap.size b S0 L0 aq2 aq4 eL bL V1.drew := HA1.out.kept ((Qt.drewN V1 1).below _)
  go_region_held3 (fun V => V.cell? ⟨y5.heap.size, 0, none⟩ = some (.map (some b)) ∧ V.cell? ⟨y5.heap.size, 1, none⟩ = some (.int .u64 (cH S0)) ∧ V.cell? ⟨y5.heap.size, 2, none⟩ = some (.int .u64 (cL S0))) (go_keep)
    ((first
      | (go_at_call 28; (with_reducible refine (HK28e.out _ hA0).mono ?_); rintro r6 y6 ⟨b6, rfl, hc6, hb6⟩; have hA6 := hA0.kept hb6; obtain ⟨h0, h1, h2⟩ := cells3 hA6.sb)
      | (go_at_call 27; (with_reducible refine (HK27.out _ _ hA6 hc6).mono ?_); rintro r7 y7 ⟨rfl, hb7⟩; have hA7 := hA6.kept hb7; obtain ⟨i0, i1, i2⟩ := cells3 hA7.sb)
      | (go_at_call 28; (with_reducible refine (HK28b.out _ hA7).mono ?_); rintro r8 y8 ⟨b8, rfl, hc8, hb8⟩; have hA8 := hA7.kept hb8; obtain ⟨j0, j1, j2⟩ := cells3 hA8.sb)
      | (go_at_call 27; (with_reducible refine (HK27.out _ _ hA8 hc8).mono ?_); rintro r9 y9 ⟨rfl, hb9⟩; have hA9 := hA8.kept hb9; obtain ⟨k0, k1, k2⟩ := cells3 hA9.sb)
      | (go_at_call 29; (with_reducible refine (HK29e.out _ hA9).mono ?_); rintro r10 y10 ⟨rfl, hq10⟩; have hA10 := hA9.kept (hq10.below _); obtain ⟨m0, m1, m2⟩ := cells3 hA10.sb)
      | (go_at_call 29; (with_reducible refine (HK29b.out _ hA10).mono ?_); rintro r11 y11 ⟨rfl, hq11⟩; have hA11 := hA10.kept (hq11.below _); obtain ⟨n0, n1, n2⟩ := cells3 hA11.sb)))
  have HA := Lib.hid hA11
  clear hA0 hA6 hA7 hA8 hA9 hA10 hA11 hc6 hc8 hb6 hb7 hb8 hb9 hq10 hq11 g0 g1 g2 h0 h1 h2 i0 i1 i2 j0 j1 j2 k0 k1 k2 m0 m1 m2 n0 n1 n2 HK28e HK28b HK27 HK29e HK29b HA1 HIE HIB HWE HWB HFE HFB
  go_wp2
  refine jreg5 rfl (by kernel_rfl) (by kernel_rfl) (by simp) w.heap.size rfl c c HA.out.cb.bc (HC.out.kept HA.out.cb.bel) rfl (w.heap.size + 1) rfl e HA.out.cb.be (HE.out.kept HA.out.cb.bel) ?_
  intro x V3 gm d ad cap hb3 hgm ex8 hm1 hN1 hd1 ex9 hG1 ex10 ex11
  simp only [putsF, List.foldl_cons, List.foldl_nil, Act.put, List.setIfInBounds_toArray, List.set_cons_zero, List.set_cons_succ, ex8, ex9, ex10, ex11]
  have HDD := Lib.hid hd1
  have HA3 := Lib.hid (show A2 w c e y5.heap.size b S0 L0 aq2 aq4 eL bL gm y11.heap.size d ad (joinGs c e) V3 from ⟨HA.out.kept hb3, hm1, hN1, (own_sl hG1).2⟩)
  clear hb3 hgm hm1 hN1 hd1 hG1 ex8 ex9 ex10 ex11 HA
  go_wp2_with fail
  refine (num_any _ _).mono ?_
  rintro r12 y12 ⟨rfl, rfl⟩
  by_cases hj : c.joinV' e = 0
  case neg =>
    have cj : (c.joinV' e != 0) = true := by simpa using hj
    have hG : joinGs c e = [] := by unfold joinGs; rw [if_neg hj]
    have hD : d.d = conZ.d := by rw [HDD.out]; unfold joinDs; rw [if_neg hj]
    rw [hG]
    have HK15 := Lib.hid (sameCon_true d conZ V3 HA3.out.nd.ok (conZ_new 0 V3).ok hD)
    unfold Con.agg at HK15
    have HFI := Lib.hid HA3.out.a1.cb
    obtain ⟨a0, a1, a2, a3, a4, a5, a6, a7, a8, a9, a10⟩ := HA3.out.bd.cells
    clear hj hG hD HDD
    generalize c.joinV' e = jv at *
    go_wp2_with fail
    refine HK15.out.mono ?_
    rintro r13 y13 ⟨rfl, hb⟩
    have HF := Lib.hid (HFI.out.bel.trans (hb.mono HFI.out.bel.size))
    clear hb a0 a1 a2 a3 a4 a5 a6 a7 a8 a9 a10
    simp only [List.length_nil]
    go_wp2
    go_ret
    exact ⟨rfl, HF.out⟩
  case pos =>
    have cj : (c.joinV' e != 0) = false := by simpa using hj
    have HJ2 := Lib.hid (HJI.out hj)
    have HDE := Lib.hid (show (joinDs c e).2.2 = d.es.map Ent.d by rw [← HDD.out]; rfl)
    have HGW := Lib.hid (joinGs_wf c e HWD.out)
    have HGF := Lib.hid (joinGs_full c e)
    have HGL := Lib.hid (joinGs_le c e)
    generalize joinGs c e = G at *
    have HP := Lib.hid (show (nzI (gIs G) ++ nzI (dIs (d.es.map Ent.d))).Perm (L0 ++ nzI (dIs ([e].map Ent.d))) by rw [← HDE.out]; exact HJ2.out.1)
    have HSM := Lib.hid (show (gCs G).sum + (dCs (d.es.map Ent.d)).sum = S0 + (dCs ([e].map Ent.d)).sum by rw [← HDE.out]; exact HJ2.out.2)
    have HL1 := Lib.hid (show (nzI (gIs G)).length ≤ 2 by have h := nzI_len (gIs G); unfold gIs at h; rw [List.length_map] at h; have := HGL.out; unfold gIs; omega)
    have HL2 := Lib.hid (show (nzI (dIs (d.es.map Ent.d))).length ≤ 2513169434843 by have h := nzI_len (dIs (d.es.map Ent.d)); unfold dIs at h; rw [List.length_map, List.length_map] at h; have := HA3.out.nd.mx; unfold dIs; omega)
    have HL4 := Lib.hid (show (nzI (dIs ([e].map Ent.d))).length ≤ 1 by have h := nzI_len (dIs ([e].map Ent.d)); simpa [dIs] using h)
    have HK29 := Lib.hid (show ∀ V, A2 w c e y5.heap.size b S0 L0 aq2 aq4 eL bL gm y11.heap.size d ad G V → Calls Try.prog 29 #[.slice ad G.length cap] V (fun r w' => r = Ending.returned (.bool true) ∧ A2 w c e y5.heap.size b S0 L0 aq2 aq4 eL bL gm y11.heap.size d ad G w' ∧ Below V.heap.size V w') from fun V h => (full_true ad cap G V (by have := HGL.out; omega) h.sg HGF.out).mono (fun r w' ⟨h1, h2⟩ => ⟨h1, h.kept (h2.below _), h2.below _⟩))
    have HK28 := Lib.hid (show ∀ V, A2 w c e y5.heap.size b S0 L0 aq2 aq4 eL bL gm y11.heap.size d ad G V → Calls Try.prog 28 #[.slice ad G.length cap] V (fun r w' => ∃ b1, r = Ending.returned (.agg #[.map (some b1), .int .u64 (cH (gCs G).sum), .int .u64 (cL (gCs G).sum)]) ∧ (∃ n, n < 500000000000000 ∧ Cnt w' b1 n (nzI (gIs G))) ∧ A2 w c e y5.heap.size b S0 L0 aq2 aq4 eL bL gm y11.heap.size d ad G w' ∧ Below V.heap.size V w') from fun V h => (given_as (cap := cap) h.sg HGW.out (by have := HGL.out; omega) rfl rfl).mono (fun r w' ⟨b1, h1, h2, h3⟩ => ⟨b1, h1, h2, h.kept h3, h3⟩))
    have HK26 := Lib.hid (show ∀ V, A2 w c e y5.heap.size b S0 L0 aq2 aq4 eL bL gm y11.heap.size d ad G V → Calls Try.prog 26 #[.slice d.ea d.es.length d.ec] V (fun r w' => ∃ b1, r = Ending.returned (.agg #[.map (some b1), .int .u64 (cH (dCs (d.es.map Ent.d)).sum), .int .u64 (cL (dCs (d.es.map Ent.d)).sum)]) ∧ (∃ n, n < 500000000000000 ∧ Cnt w' b1 n (nzI (dIs (d.es.map Ent.d)))) ∧ A2 w c e y5.heap.size b S0 L0 aq2 aq4 eL bL gm y11.heap.size d ad G w' ∧ Below V.heap.size V w') from fun V h => (held_as (cap := d.ec) h.nd.ok.sl h.nd.ok.ents h.nd.mx rfl rfl).mono (fun r w' ⟨b1, h1, h2, h3⟩ => ⟨b1, h1, h2, h.kept h3, h3⟩))
    have HK26e := Lib.hid (show ∀ V q, A2 w c e y5.heap.size b S0 L0 aq2 aq4 eL bL gm y11.heap.size d ad G V → Sl V (some q) (eFlat [e]) → Calls Try.prog 26 #[.slice (some q) 1 1] V (fun r w' => ∃ b1, r = Ending.returned (.agg #[.map (some b1), .int .u64 (cH (dCs ([e].map Ent.d)).sum), .int .u64 (cL (dCs ([e].map Ent.d)).sum)]) ∧ (∃ n, n < 500000000000000 ∧ Cnt w' b1 n (nzI (dIs ([e].map Ent.d)))) ∧ A2 w c e y5.heap.size b S0 L0 aq2 aq4 eL bL gm y11.heap.size d ad G w' ∧ Below V.heap.size V w') from fun V q h hs => (held_as (cap := 1) (l := [e]) hs (fun x hx => by rw [List.mem_singleton] at hx; subst hx; exact HE.out.kept h.a1.cb.bel) (by simp) rfl rfl).mono (fun r w' ⟨b1, h1, h2, h3⟩ => ⟨b1, h1, h2, h.kept h3, h3⟩))
    have HK30 := Lib.hid (show ∀ V b8 b9, A2 w c e y5.heap.size b S0 L0 aq2 aq4 eL bL gm y11.heap.size d ad G V → (∃ n, n < 500000000000000 ∧ Cnt V b8 n (nzI (gIs G))) → (∃ n, n < 500000000000000 ∧ Cnt V b9 n (nzI (dIs (d.es.map Ent.d)))) → Calls Try.prog 30 #[.agg #[.map (some b8), .int .u64 (cH (gCs G).sum), .int .u64 (cL (gCs G).sum)], .agg #[.map (some b9), .int .u64 (cH (dCs (d.es.map Ent.d)).sum), .int .u64 (cL (dCs (d.es.map Ent.d)).sum)]] V (fun r w' => ∃ b1, r = Ending.returned (.agg #[.map (some b1), .int .u64 (cH ((gCs G).sum + (dCs (d.es.map Ent.d)).sum)), .int .u64 (cL ((gCs G).sum + (dCs (d.es.map Ent.d)).sum))]) ∧ (∃ n, Cnt w' b1 n (nzI (gIs G) ++ nzI (dIs (d.es.map Ent.d)))) ∧ A2 w c e y5.heap.size b S0 L0 aq2 aq4 eL bL gm y11.heap.size d ad G w' ∧ Below V.heap.size V w') from fun V b8 b9 h k1 k2 => (both_as (S1 := (gCs G).sum) (S2 := (dCs (d.es.map Ent.d)).sum) k1 k2 (by have := HL1.out; have := HL2.out; omega)).mono (fun r w' ⟨b1, h1, h2, h3⟩ => ⟨b1, h1, h2, h.kept h3, h3⟩))
    have HK30e := Lib.hid (show ∀ V b9, A2 w c e y5.heap.size b S0 L0 aq2 aq4 eL bL gm y11.heap.size d ad G V → (∃ n, n < 500000000000000 ∧ Cnt V b9 n (nzI (dIs ([e].map Ent.d)))) → Calls Try.prog 30 #[.agg #[.map (some b), .int .u64 (cH S0), .int .u64 (cL S0)], .agg #[.map (some b9), .int .u64 (cH (dCs ([e].map Ent.d)).sum), .int .u64 (cL (dCs ([e].map Ent.d)).sum)]] V (fun r w' => ∃ b1, r = Ending.returned (.agg #[.map (some b1), .int .u64 (cH (S0 + (dCs ([e].map Ent.d)).sum)), .int .u64 (cL (S0 + (dCs ([e].map Ent.d)).sum))]) ∧ (∃ n, Cnt w' b1 n (L0 ++ nzI (dIs ([e].map Ent.d)))) ∧ A2 w c e y5.heap.size b S0 L0 aq2 aq4 eL bL gm y11.heap.size d ad G w' ∧ Below V.heap.size V w') from fun V b9 h k2 => (both_as (S1 := S0) (S2 := (dCs ([e].map Ent.d)).sum) h.a1.cn k2 (by have := HLL.out; have := HL4.out; omega)).mono (fun r w' ⟨b1, h1, h2, h3⟩ => ⟨b1, h1, h2, h.kept h3, h3⟩))
    have HK27 := Lib.hid (show ∀ V b8 b9, A2 w c e y5.heap.size b S0 L0 aq2 aq4 eL bL gm y11.heap.size d ad G V → (∃ n, Cnt V b8 n (nzI (gIs G) ++ nzI (dIs (d.es.map Ent.d)))) → (∃ n, Cnt V b9 n (L0 ++ nzI (dIs ([e].map Ent.d)))) → Calls Try.prog 27 #[.agg #[.map (some b8), .int .u64 (cH ((gCs G).sum + (dCs (d.es.map Ent.d)).sum)), .int .u64 (cL ((gCs G).sum + (dCs (d.es.map Ent.d)).sum))], .agg #[.map (some b9), .int .u64 (cH (S0 + (dCs ([e].map Ent.d)).sum)), .int .u64 (cL (S0 + (dCs ([e].map Ent.d)).sum))]] V (fun r w' => r = Ending.returned (.bool true) ∧ A2 w c e y5.heap.size b S0 L0 aq2 aq4 eL bL gm y11.heap.size d ad G w') from fun V b8 b9 h k1 k2 => (alike_as k1 k2 HP.out HSM.out).mono (fun r w' ⟨h1, h2⟩ => ⟨h1, h.kept h2⟩))
    clear HJ2 HDE HGW HGF HGL HP HSM HL1 HL2 HL4 HJI HDD HLL HLE HLB HWD HRS hj
    generalize (gCs G).sum = S1 at *
    generalize (dCs (d.es.map Ent.d)).sum = S2 at *
    generalize (dCs ([e].map Ent.d)).sum = S4 at *
    generalize nzI (gIs G) = L1 at *
    generalize nzI (dIs (d.es.map Ent.d)) = L2 at *
    generalize nzI (dIs ([e].map Ent.d)) = L4 at *
    obtain ⟨z1, z2, z3, z4, z5, z6, z7, z8, z9⟩ := HA3.out.cells
    go_wp2
    have hA : A2 w c e y5.heap.size b S0 L0 aq2 aq4 eL bL gm y11.heap.size d ad G V3.drew := HA3.out.kept ((Qt.drewN V3 1).below _)
    go_region_held3 (fun V => V.cell? ⟨gm, 10, none⟩ = some (.slice d.ea d.es.length d.ec) ∧ V.cell? ⟨y5.heap.size, 0, none⟩ = some (.map (some b)) ∧ V.cell? ⟨y5.heap.size, 1, none⟩ = some (.int .u64 (cH S0)) ∧ V.cell? ⟨y5.heap.size, 2, none⟩ = some (.int .u64 (cL S0)) ∧
        V.cell? ⟨w.heap.size + 1, 0, none⟩ = some (.int .i64 e.acc) ∧ V.cell? ⟨w.heap.size + 1, 1, none⟩ = some (.int .i64 e.item) ∧ V.cell? ⟨w.heap.size + 1, 2, none⟩ = some (.int .u64 e.coins) ∧ V.cell? ⟨w.heap.size + 1, 3, none⟩ = some (.int .u64 e.price) ∧ V.cell? ⟨w.heap.size + 1, 4, none⟩ = some (.slice e.wa e.ws.length e.wc)) (go_keep)
      ((first
        | (go_at_call 29; (with_reducible refine (HK29.out _ (by first | exact hA | exact hA.kept ((Below.refl _ _).alloc (Nat.le_refl _) _))).mono ?_); rintro r14 y14 ⟨rfl, hA, hb⟩; (first | (have hS := Sl.kept hS hb) | (have hS := Sl.kept (sl_new _ (eFlat [e]) 33 (0, 0)) hb) | skip); obtain ⟨z1, z2, z3, z4, z5, z6, z7, z8, z9⟩ := hA.cells)
        | (go_at_call 28; (with_reducible refine (HK28.out _ (by first | exact hA | exact hA.kept ((Below.refl _ _).alloc (Nat.le_refl _) _))).mono ?_); rintro r15 y15 ⟨b15, rfl, hc1, hA, hb⟩; (first | (have hS := Sl.kept hS hb) | (have hS := Sl.kept (sl_new _ (eFlat [e]) 33 (0, 0)) hb) | skip); obtain ⟨z1, z2, z3, z4, z5, z6, z7, z8, z9⟩ := hA.cells)
        | (go_at_call 26; (with_reducible refine (HK26.out _ (by first | exact hA | exact hA.kept ((Below.refl _ _).alloc (Nat.le_refl _) _))).mono ?_); rintro r16 y16 ⟨b16, rfl, hc2, hA, hb⟩; (first | (have hS := Sl.kept hS hb) | (have hS := Sl.kept (sl_new _ (eFlat [e]) 33 (0, 0)) hb) | skip); (first | (have hc1 := cnt_keep hc1 hb) | (have hc1 := cnt_keep (cnt_keep hc1 ((Below.refl _ _).alloc (Nat.le_refl _) _)) hb)); obtain ⟨z1, z2, z3, z4, z5, z6, z7, z8, z9⟩ := hA.cells)
        | (go_at_call 30; (with_reducible refine (HK30.out _ _ _ (by first | exact hA | exact hA.kept ((Below.refl _ _).alloc (Nat.le_refl _) _)) (by first | exact hc1 | exact cnt_keep hc1 ((Below.refl _ _).alloc (Nat.le_refl _) _)) (by first | exact hc2 | exact cnt_keep hc2 ((Below.refl _ _).alloc (Nat.le_refl _) _))).mono ?_); rintro r17 y17 ⟨b17, rfl, hc3, hA, hb⟩; (first | (have hS := Sl.kept hS hb) | (have hS := Sl.kept (sl_new _ (eFlat [e]) 33 (0, 0)) hb) | skip); obtain ⟨z1, z2, z3, z4, z5, z6, z7, z8, z9⟩ := hA.cells)
        | (go_at_call 30; (with_reducible refine (HK30e.out _ _ hA hc4).mono ?_); rintro r19 y19 ⟨b19, rfl, hc5, hA, hb⟩; (first | (have hc3 := cnt_keep' hc3 hb) | (have hc3 := cnt_keep' (cnt_keep' hc3 ((Below.refl _ _).alloc (Nat.le_refl _) _)) hb)); obtain ⟨z1, z2, z3, z4, z5, z6, z7, z8, z9⟩ := hA.cells)
        | (go_at_call 27; (with_reducible refine (HK27.out _ _ _ hA hc3 hc5).mono ?_); rintro r20 y20 ⟨rfl, hA⟩; obtain ⟨z1, z2, z3, z4, z5, z6, z7, z8, z9⟩ := hA.cells)
        | (go_at_call 26; (with_reducible refine (HK26e.out _ _ (by first | exact hA | exact hA.kept ((Below.refl _ _).alloc (Nat.le_refl _) _)) (by first | exact hS | (with_unfolding_all exact sl_new _ (eFlat [e]) 33 (0, 0)))).mono ?_); rintro r18 y18 ⟨b18, rfl, hc4, hA, hb⟩; (first | (have hc3 := cnt_keep' hc3 hb) | (have hc3 := cnt_keep' (cnt_keep' hc3 ((Below.refl _ _).alloc (Nat.le_refl _) _)) hb)); obtain ⟨z1, z2, z3, z4, z5, z6, z7, z8, z9⟩ := hA.cells)))
    all_goals
      go_wp2
      go_ret
      exact ⟨rfl, hA.a1.cb.bel⟩
theorem own : ownKnob Try.prog.godebug = none := by kernel_rfl
theorem laidOut : laidOutB Try.prog = true := by kernel_rfl
set_option maxRecDepth 100000 in
theorem lifted (os : Os) (started : os.Started) (H : Type) (enc : TypeId × Value → H) :
    ReturnsInHanded {} Try.checked os 5 .any (Rows.auctionAllSpec.pre6 enc Try.prog Try.f5 Rows.auctionAllRow.domain false) (Rows.auctionAllSpec.post enc Try.prog Try.f5 false true false false) := by
  refine returnsInHanded_of_change_sized (C := Try.checked) own started (by kernel_rfl) Try.func5
    (ChangeSpec.witness6 (enc := enc) (C := Try.checked) false ⟨#[], #[.agg #[.int .i64 0, .int .i64 0, .int .i64 0, .int .i64 0, .int .i64 0, .int .i64 0, .int .u64 0, .int .u64 0, .int .u64 0, .int .i64 0, .slice none 0 0], .agg #[.int .i64 0, .int .i64 0, .int .u64 0, .int .u64 0, .slice none 0 0]], []⟩ 8 (by kernel_rfl) (by kernel_rfl) (by kernel_rfl) (by kernel_rfl)) ?_
  intro W base args ds gs before hval0 hW hcnd hsz0 _
  have hsz : (DataW.weightsEach Try.prog (Try.f5.params.toList ++ Rows.auctionAllSpec.plain.varTypes Try.prog) (ds ++ gs)).all (· ≤ reachBytes) = true := hsz0
  clear hsz0
  have hval : ∀ (j : Nat) t v, Try.f5.params[j]? = some t → args[j]? = some v → Value.okWide Try.prog W .any base t v := hval0
  have hW' := hW
  obtain ⟨p, q, hA0, hV, rfl, hfz, hnd⟩ := hW
  have hA : DataW.TrodAll enc Try.prog W 0 (fun _ => true) true Try.f5.params.toList args.toList ds p := hA0
  rw [Try.params5] at hA hval hsz
  obtain ⟨v0, vs0, d0, ds0, p0, q0, hargs, rfl, rfl, h0, r0⟩ := trodAll_cons hA
  obtain ⟨v1, vs1, d1, ds1, p1, q1, rfl, rfl, rfl, h1, r1⟩ := trodAll_cons r0
  obtain ⟨rfl, rfl, rfl⟩ := trodAll_nil r1
  obtain rfl : args = #[v0, v1] := by cases args; simp_all
  obtain ⟨rfl, rfl⟩ := trodVars_none hV
  have k0 := h0
  have lt0 : ∀ x ∈ p0, x.block < W.heap.size := by obtain ⟨m, hm⟩ := k0; exact DataW.trod_lt m _ _ _ hm
  obtain ⟨c0, rfl, n0⟩ := open_con (hval 0 25 v0 rfl rfl) h0 hsz (j := 0) rfl rfl
  have z0 := con_reserve k0
  have k1 := h1
  have lt1 : ∀ x ∈ p1, x.block < W.heap.size := by obtain ⟨m, hm⟩ := k1; exact DataW.trod_lt m _ _ _ hm
  obtain ⟨c1, rfl, n1⟩ := open_ent (hval 1 33 v1 rfl rfl) h1 hsz (j := 1) rfl rfl
  clear hA0 hval0
  refine (walk c0 c1 W n0 z0 n1).mono fun e W' ⟨he, bel⟩ => ?_
  subst he
  exact ⟨_, rfl, _, _, _, [], _, [], hW', trodAll_mk1 (shut_bool Try.underlying4 _), (trodAll_cons_mk (Below.trod laidOut (by kernel_rfl) (of_decide_eq_true (by kernel_rfl)) k0 bel lt0) (trodAll_cons_mk (Below.trod laidOut (by kernel_rfl) (of_decide_eq_true (by kernel_rfl)) k1 bel lt1) trodAll_mk0)), rfl, bel.frame _, fun h => by cases h⟩
theorem over : Rows.auctionAllRow.holds Try.pinned (OpenSpec.ofChange Rows.auctionAllSpec) :=
  OpenClaim.holds_of_wide 5 Try.f5 rfl rfl rfl rfl rfl rfl rfl ⟨rfl, rfl, rfl, rfl, rfl⟩ rfl rfl rfl rfl rfl (by kernel_rfl) Try.func5 (by kernel_rfl)
    (of_decide_eq_true (by kernel_rfl)) (by unfold Func.isWrapper; first | (rw [if_pos (by decide +kernel)]; kernel_rfl) | (rw [if_neg (by decide +kernel)]; exact ⟨rfl, rfl⟩))
    (fun os started H enc _ => lifted os started H enc)
theorem proved : Rows.AuctionAllSaid := over
#print axioms proved
end Go.Proofs.Ytpejcndfplbikaa.lawAuctionAll
