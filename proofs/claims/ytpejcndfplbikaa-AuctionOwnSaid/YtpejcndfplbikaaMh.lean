/-
  Layer 21: the auctions that the document names.
-/
import Derived.Test.YtpejcndfplbikaaMg
import Derived.Test.YtpejcndfplbikaaMe
namespace Go.Proofs.Ytpejcndfplbikaa
open Go.RowKit Go.K
set_option linter.unusedVariables false
set_option linter.unusedSimpArgs false
def cE (a n : Int) : Ent := ⟨a, 0, n, 0, none, 0, []⟩
theorem cE_ok (W : World) (a n : Int) (h : (Lit.int .u64 n).wf = true) : EntOk W (cE a n) := ⟨Sl.nil _ _, Nat.le_refl _, Nat.zero_le _, (fun _ => ⟨rfl, rfl⟩), (fun x hx => by cases hx), (by show (Lit.int .i64 0).wf = true; decide), h, (by show (Lit.int .u64 0).wf = true; decide)⟩
theorem cE_new (B : Nat) (W : World) (a n : Int) (h : (Lit.int .u64 n).wf = true) : NewE B W (cE a n) := ⟨World.ownsRow_nil _ _ _ _, Nat.zero_le _, (fun x hx => by cases hx), (by show (Lit.int .i64 0).wf = true; decide), h, (by show (Lit.int .u64 0).wf = true; decide)⟩
def kC (k r s : Int) (l : List Ent) : Con := { conB k r s none 0 with es := l }
/-- An auction begun, as a contract of whatever place. -/
theorem begun_q (k r s : Int) (w : World) : Calls Try.prog 32 #[.int .i64 k, .int .u64 r, .int .u64 s] w fun e w' => ∃ q : Con, e = .returned (.agg #[.int .i64 q.num, .int .i64 q.kind, .int .i64 q.by', .int .i64 q.dl, .int .i64 q.to', .int .i64 q.want, .int .u64 q.price, .int .u64 q.reserve, .int .u64 q.step, .int .i64 q.of', .slice q.ea q.es.length q.ec]) ∧ NewC w.heap.size w' q ∧ q.d = (kC k r s [e7]).d ∧ Below w.heap.size w w' :=
  (begun_any k r s w).mono fun e w' ⟨a, c, h1, h2, h3⟩ => ⟨conB k r s a c, h1, h2, rfl, h3⟩
/-- A join of what shows the same as a contract that is known. -/
theorem join_k (q C : Con) (e : Ent) (w : World) (hq : ConOk w q) (he : EntOk w e) (h : q.d = C.d) {v : Int} {gs : List Gi} {D : Con} (hv : C.joinV' e = v) (hg : joinGs C e = gs) (hD : joinDs C e = D.d) :
    Calls Try.prog 10 #[.agg #[.int .i64 q.num, .int .i64 q.kind, .int .i64 q.by', .int .i64 q.dl, .int .i64 q.to', .int .i64 q.want, .int .u64 q.price, .int .u64 q.reserve, .int .u64 q.step, .int .i64 q.of', .slice q.ea q.es.length q.ec], e.agg] w fun r w' => ∃ (d : Con) (ad : Option Addr) (cap : Nat), r = .returned (.tuple #[.agg #[.int .i64 d.num, .int .i64 d.kind, .int .i64 d.by', .int .i64 d.dl, .int .i64 d.to', .int .i64 d.want, .int .u64 d.price, .int .u64 d.reserve, .int .u64 d.step, .int .i64 d.of', .slice d.ea d.es.length d.ec], .slice ad gs.length cap, .bool false, .int .i64 v]) ∧
      NewC w.heap.size w' d ∧ d.d = D.d ∧ Sl w' ad (gFlat gs) ∧ Below w.heap.size w w' := by
  subst hv hg
  refine (join_piece q C e e w hq he h rfl).mono ?_
  rintro r w' ⟨d, ad, cap, h1, h2, h3, h4, h5⟩
  exact ⟨d, ad, cap, h1, h3, h5.trans hD, (own_sl h4).2, h2⟩
theorem end_k (q C : Con) (w : World) (hq : ConOk w q) (h : q.d = C.d) {gs : List Gi} (hg : endL C.kind C.reserve (C.es.map Ent.d) = gs) :
    Calls Try.prog 17 #[.agg #[.int .i64 q.num, .int .i64 q.kind, .int .i64 q.by', .int .i64 q.dl, .int .i64 q.to', .int .i64 q.want, .int .u64 q.price, .int .u64 q.reserve, .int .u64 q.step, .int .i64 q.of', .slice q.ea q.es.length q.ec]] w fun r w' => ∃ (ad : Option Addr) (cap : Nat), r = .returned (.slice ad gs.length cap) ∧ Sl w' ad (gFlat gs) ∧ Below w.heap.size w w' := by
  subst hg
  refine (end_any q w hq).mono ?_
  rintro r w' ⟨⟨ad, cap, h1, h2⟩, h3⟩
  obtain ⟨e1, e2, e3, e4, e5, e6, e7, e8, e9⟩ := con_eq h
  rw [e1, e6, e9] at h1 h2
  exact ⟨ad, cap, h1, (own_sl h2).2, h3⟩
theorem terms_k (q C : Con) (w : World) (hq : ConOk w q) (h : q.d = C.d) {v : Int} (hv : termsV C.kind C.by' C.to' C.want C.price C.reserve C.step C.of' (C.es.map Ent.d) = v) :
    Calls Try.prog 21 #[.agg #[.int .i64 q.num, .int .i64 q.kind, .int .i64 q.by', .int .i64 q.dl, .int .i64 q.to', .int .i64 q.want, .int .u64 q.price, .int .u64 q.reserve, .int .u64 q.step, .int .i64 q.of', .slice q.ea q.es.length q.ec]] w fun r w' => r = .returned (.int .i64 v) ∧ Below w.heap.size w w' := by
  subst hv
  refine (terms_any q w hq).mono ?_
  rintro r w' ⟨h1, h2⟩
  obtain ⟨e1, e2, e3, e4, e5, e6, e7, e8, e9⟩ := con_eq h
  rw [e1, e2, e3, e4, e5, e6, e7, e8, e9] at h1
  exact ⟨h1, h2⟩
theorem sl_new' {w : World} {g : Nat} {cs : List Value} {t : TypeId} {fr : Nat × Nat} (h : g = w.heap.size) : Sl (w.alloc (.cells cs.toArray t fr)) (some ⟨g, 0, none⟩) cs := by subst h; exact sl_new w cs t fr
theorem kv1 : (kC 2 10 5 [e7]).joinV' (cE 2 10) = 0 := by kernel_rfl
theorem kg1 : joinGs (kC 2 10 5 [e7]) (cE 2 10) = [] := by kernel_rfl
theorem kd1 : joinDs (kC 2 10 5 [e7]) (cE 2 10) = (kC 2 10 5 [e7, cE 2 10]).d := by kernel_rfl
theorem kv2 : (kC 2 10 5 [e7, cE 2 10]).joinV' (cE 3 15) = 0 := by kernel_rfl
theorem kg2 : joinGs (kC 2 10 5 [e7, cE 2 10]) (cE 3 15) = [⟨2, 0, 10⟩] := by kernel_rfl
theorem kd2 : joinDs (kC 2 10 5 [e7, cE 2 10]) (cE 3 15) = (kC 2 10 5 [e7, cE 3 15]).d := by kernel_rfl
theorem kv3 : (kC 2 10 5 [e7, cE 2 10]).joinV' (cE 3 14) = 210 := by kernel_rfl
theorem kg3 : joinGs (kC 2 10 5 [e7, cE 2 10]) (cE 3 14) = [] := by kernel_rfl
theorem kd3 : joinDs (kC 2 10 5 [e7, cE 2 10]) (cE 3 14) = conZ.d := by kernel_rfl
theorem kt : termsV (kC 2 10 5 [e7]).kind (kC 2 10 5 [e7]).by' (kC 2 10 5 [e7]).to' (kC 2 10 5 [e7]).want (kC 2 10 5 [e7]).price (kC 2 10 5 [e7]).reserve (kC 2 10 5 [e7]).step (kC 2 10 5 [e7]).of' ((kC 2 10 5 [e7]).es.map Ent.d) = 0 := by kernel_rfl
theorem ke1 : endL (kC 2 10 5 [e7, cE 3 15]).kind (kC 2 10 5 [e7, cE 3 15]).reserve ((kC 2 10 5 [e7, cE 3 15]).es.map Ent.d) = [⟨3, 7, 0⟩, ⟨1, 0, 15⟩] := by kernel_rfl
theorem ke2 : endL (kC 3 10 0 [e7, cE 2 9, cE 3 30]).kind (kC 3 10 0 [e7, cE 2 9, cE 3 30]).reserve ((kC 3 10 0 [e7, cE 2 9, cE 3 30]).es.map Ent.d) = [⟨3, 7, 0⟩, ⟨2, 0, 9⟩, ⟨1, 0, 10⟩, ⟨3, 0, 20⟩] := by kernel_rfl
set_option maxRecDepth 100000 in
set_option maxHeartbeats 4000000 in
theorem known_any (w : World) : Calls Try.prog 25 #[] w fun e w' => e = .returned (.bool true) ∧ Below w.heap.size w w' := by
  go_enter Try.func25, Try.ntmps25
  go_wp2_with fail
  refine (begun_q 2 10 5 w).mono ?_
  rintro r1 v1 ⟨q, rfl, hN1, hd1, hb1⟩
  have HW := Lib.hid hb1
  have NQ := Lib.hid hN1
  have DQ := Lib.hid hd1
  clear hN1 hd1 hb1
  go_wp2_with fail
  obtain ⟨V1, hV1⟩ : ∃ V, V = v1.alloc (.cells #[.int .i64 q.num, .int .i64 q.kind, .int .i64 q.by', .int .i64 q.dl, .int .i64 q.to', .int .i64 q.want, .int .u64 q.price, .int .u64 q.reserve, .int .u64 q.step, .int .i64 q.of', .slice q.ea q.es.length q.ec] 25) := ⟨_, rfl⟩
  have HA := Lib.hid (show Below v1.heap.size v1 V1 by rw [hV1]; exact (Below.refl _ _).alloc (Nat.le_refl _) _)
  have BQ := Lib.hid (show Box V1 v1.heap.size q by rw [hV1]; exact alloc_at rfl)
  rw [← hV1]
  clear hV1
  have HW := Lib.hid (HW.out.trans (HA.out.mono HW.out.size))
  have NQ := Lib.hid (NQ.out.kept HA.out)
  clear HA
  refine (join_k q (kC 2 10 5 [e7]) (cE 2 10) V1 NQ.out.ok (cE_ok V1 2 10 (by decide)) DQ.out kv1 kg1 kd1).mono ?_
  rintro r2 v2 ⟨d1, ad1, cp1, rfl, hN, hD, hS, hb⟩
  have N1 := Lib.hid hN
  have D1 := Lib.hid hD
  have NQ := Lib.hid (NQ.out.kept hb)
  have BQ := Lib.hid (BQ.out.kept hb)
  have HW := Lib.hid (HW.out.trans (hb.mono HW.out.size))
  clear hN hD hS hb
  have BE := BQ.out.cellsA
  simp only [List.length_nil, List.length_cons]
  go_wp2_with fail
  obtain ⟨V2, hV2⟩ : ∃ V, V = v2.alloc (.cells #[.int .i64 d1.num, .int .i64 d1.kind, .int .i64 d1.by', .int .i64 d1.dl, .int .i64 d1.to', .int .i64 d1.want, .int .u64 d1.price, .int .u64 d1.reserve, .int .u64 d1.step, .int .i64 d1.of', .slice d1.ea d1.es.length d1.ec] 25) := ⟨_, rfl⟩
  have HA := Lib.hid (show Below v2.heap.size v2 V2 by rw [hV2]; exact (Below.refl _ _).alloc (Nat.le_refl _) _)
  have BD1 := Lib.hid (show Box V2 v2.heap.size d1 by rw [hV2]; exact alloc_at rfl)
  rw [← hV2]
  clear hV2
  have HW := Lib.hid (HW.out.trans (HA.out.mono HW.out.size))
  have NQ := Lib.hid (NQ.out.kept HA.out)
  have BQ := Lib.hid (BQ.out.kept HA.out)
  have N1 := Lib.hid (N1.out.kept HA.out)
  clear HA
  refine (join_k d1 (kC 2 10 5 [e7, cE 2 10]) (cE 3 15) V2 N1.out.ok (cE_ok V2 3 15 (by decide)) D1.out kv2 kg2 kd2).mono ?_
  rintro r3 v3 ⟨d2, ad2, cp2, rfl, hN, hD, hS, hb⟩
  have N2 := Lib.hid hN
  have D2 := Lib.hid hD
  have S2 := Lib.hid hS
  have NQ := Lib.hid (NQ.out.kept hb)
  have BQ := Lib.hid (BQ.out.kept hb)
  have N1 := Lib.hid (N1.out.kept hb)
  have BD1 := Lib.hid (BD1.out.kept hb)
  have HW := Lib.hid (HW.out.trans (hb.mono HW.out.size))
  clear hN hD hS hb BE
  obtain ⟨a0, a1, a2, a3, a4, a5, a6, a7, a8, a9, a10⟩ := BD1.out.cellsA
  simp only [List.length_nil, List.length_cons]
  go_wp2_with fail
  obtain ⟨V3, hV3⟩ : ∃ V, V = v3.alloc (.cells #[.int .i64 d2.num, .int .i64 d2.kind, .int .i64 d2.by', .int .i64 d2.dl, .int .i64 d2.to', .int .i64 d2.want, .int .u64 d2.price, .int .u64 d2.reserve, .int .u64 d2.step, .int .i64 d2.of', .slice d2.ea d2.es.length d2.ec] 25) := ⟨_, rfl⟩
  have HA := Lib.hid (show Below v3.heap.size v3 V3 by rw [hV3]; exact (Below.refl _ _).alloc (Nat.le_refl _) _)
  have BD2 := Lib.hid (show Box V3 v3.heap.size d2 by rw [hV3]; exact alloc_at rfl)
  rw [← hV3]
  clear hV3
  have HW := Lib.hid (HW.out.trans (HA.out.mono HW.out.size))
  have NQ := Lib.hid (NQ.out.kept HA.out)
  have BQ := Lib.hid (BQ.out.kept HA.out)
  have N1 := Lib.hid (N1.out.kept HA.out)
  have BD1 := Lib.hid (BD1.out.kept HA.out)
  have N2 := Lib.hid (N2.out.kept HA.out)
  have S2 := Lib.hid (S2.out.kept HA.out)
  clear HA
  clear a0 a1 a2 a3 a4 a5 a6 a7 a8 a9 a10
  refine (join_k d1 (kC 2 10 5 [e7, cE 2 10]) (cE 3 14) V3 N1.out.ok (cE_ok V3 3 14 (by decide)) D1.out kv3 kg3 kd3).mono ?_
  rintro r4 v4 ⟨d3, ad3, cp3, rfl, hN, hD, hS, hb⟩
  have NQ := Lib.hid (NQ.out.kept hb)
  have BQ := Lib.hid (BQ.out.kept hb)
  have BD2 := Lib.hid (BD2.out.kept hb)
  have N2 := Lib.hid (N2.out.kept hb)
  have S2 := Lib.hid (S2.out.kept hb)
  have HW := Lib.hid (HW.out.trans (hb.mono HW.out.size))
  clear hN hD hS hb N1 D1 BD1
  obtain ⟨a0, a1, a2, a3, a4, a5, a6, a7, a8, a9, a10⟩ := BQ.out.cellsA
  simp only [List.length_nil, List.length_cons]
  go_wp2_with fail
  obtain ⟨V4, hV4⟩ : ∃ V, V = v4.alloc (.cells #[.int .i64 d3.num, .int .i64 d3.kind, .int .i64 d3.by', .int .i64 d3.dl, .int .i64 d3.to', .int .i64 d3.want, .int .u64 d3.price, .int .u64 d3.reserve, .int .u64 d3.step, .int .i64 d3.of', .slice d3.ea d3.es.length d3.ec] 25) := ⟨_, rfl⟩
  have HA := Lib.hid (show Below v4.heap.size v4 V4 by rw [hV4]; exact (Below.refl _ _).alloc (Nat.le_refl _) _)
  have BD3 := Lib.hid (show Box V4 v4.heap.size d3 by rw [hV4]; exact alloc_at rfl)
  rw [← hV4]
  clear hV4
  have HW := Lib.hid (HW.out.trans (HA.out.mono HW.out.size))
  have NQ := Lib.hid (NQ.out.kept HA.out)
  have BQ := Lib.hid (BQ.out.kept HA.out)
  have BD2 := Lib.hid (BD2.out.kept HA.out)
  have N2 := Lib.hid (N2.out.kept HA.out)
  have S2 := Lib.hid (S2.out.kept HA.out)
  clear HA
  clear a0 a1 a2 a3 a4 a5 a6 a7 a8 a9 a10 BD3
  refine (terms_k q (kC 2 10 5 [e7]) V4 NQ.out.ok DQ.out kt).mono ?_
  rintro r5 v5 ⟨rfl, hb⟩
  have BD2 := Lib.hid (BD2.out.kept hb)
  have N2 := Lib.hid (N2.out.kept hb)
  have S2 := Lib.hid (S2.out.kept hb)
  have HW := Lib.hid (HW.out.trans (hb.mono HW.out.size))
  clear hb NQ BQ DQ
  go_wp2_with (go_at_call 13; (with_reducible refine (num_any _ _).mono ?_); rintro r6 y6 ⟨rfl, rfl⟩)
  have HA := Lib.hid (show Below v5.heap.size v5 (v5.alloc (.cells #[.int .i64 2, .int .i64 0, .int .u64 10] 64)) from (Below.refl _ _).alloc (Nat.le_refl _) _)
  refine (gifts_true ad2 (some ⟨v5.heap.size, 0, none⟩) cp2 1 [⟨2, 0, 10⟩] _ (by decide) (S2.out.kept HA.out) (sl_new v5 (gFlat [⟨2, 0, 10⟩]) 64 (0, 0))).mono ?_
  rintro r7 v6 ⟨rfl, hq⟩
  have HQ := Lib.hid (HA.out.trans ((hq.below (v5.alloc (.cells #[.int .i64 2, .int .i64 0, .int .u64 10] 64)).heap.size).mono HA.out.size))
  have BD2 := Lib.hid (BD2.out.kept HQ.out)
  have N2 := Lib.hid (N2.out.kept HQ.out)
  have HW := Lib.hid (HW.out.trans (HQ.out.mono HW.out.size))
  clear hq HA HQ S2
  go_wp2_with fail
  refine (begun_q 3 10 0 v6).mono ?_
  rintro r8 v7 ⟨s, rfl, hN, hD, hb⟩
  have NS := Lib.hid hN
  have DS := Lib.hid hD
  have HB67 := Lib.hid hb
  clear hN hD hb
  have HA := Lib.hid (show Below v7.heap.size v7 ((v7.alloc (.cells #[.int .i64 s.num, .int .i64 s.kind, .int .i64 s.by', .int .i64 s.dl, .int .i64 s.to', .int .i64 s.want, .int .u64 s.price, .int .u64 s.reserve, .int .u64 s.step, .int .i64 s.of', .slice s.ea s.es.length s.ec] 25)).alloc (.cells #[.int .i64 2, .int .i64 0, .int .u64 9, .int .u64 0, .slice none 0 0, .int .i64 3, .int .i64 0, .int .u64 30, .int .u64 0, .slice none 0 0] 33)) from ((Below.refl _ _).alloc (Nat.le_refl _) _).alloc (by simp) _)
  have HLS := Lib.hid (show s.es.length = 1 by have := congrArg List.length (con_eq DS.out).2.2.2.2.2.2.2.2; rw [List.length_map] at this; rw [this]; rfl)
  have BS := Lib.hid (show Box ((v7.alloc (.cells #[.int .i64 s.num, .int .i64 s.kind, .int .i64 s.by', .int .i64 s.dl, .int .i64 s.to', .int .i64 s.want, .int .u64 s.price, .int .u64 s.reserve, .int .u64 s.step, .int .i64 s.of', .slice s.ea s.es.length s.ec] 25)).alloc (.cells #[.int .i64 2, .int .i64 0, .int .u64 9, .int .u64 0, .slice none 0 0, .int .i64 3, .int .i64 0, .int .u64 30, .int .u64 0, .slice none 0 0] 33)) v7.heap.size s from alloc_old (alloc_at rfl))
  have HO := Lib.hid (NS.out.kept HA.out)
  have B1 := Lib.hid (show s.es.length + 2 ≤ maxLen by rw [HLS.out]; unfold maxLen; decide)
  have B2 := Lib.hid (show (s.es.length + 2) * 56 ≤ 140737488355328 by rw [HLS.out]; decide)
  have B3 := Lib.hid (show v6.heap.size ≤ ((v7.alloc (.cells #[.int .i64 s.num, .int .i64 s.kind, .int .i64 s.by', .int .i64 s.dl, .int .i64 s.to', .int .i64 s.want, .int .u64 s.price, .int .u64 s.reserve, .int .u64 s.step, .int .i64 s.of', .slice s.ea s.es.length s.ec] 25)).alloc (.cells #[.int .i64 2, .int .i64 0, .int .u64 9, .int .u64 0, .slice none 0 0, .int .i64 3, .int .i64 0, .int .u64 30, .int .u64 0, .slice none 0 0] 33)).heap.size by have := HB67.out.size; simp; omega)
  go_wp2_with (at_builtin; refine wpList_append_sl rfl _ _ 23 rfl v6.heap.size 33 (.agg #[.int .i64 0, .int .i64 0, .int .u64 0, .int .u64 0, .slice none 0 0]) 5 56 Try.underlying23 infoE rfl (by decide) (.slice s.ea s.es.length s.ec) s.es.length (eFlat s.es) rfl HO.out.row (some ⟨v7.heap.size + 1, 0, none⟩) 2 2 (eFlat [cE 2 9, cE 3 30]) ?b6 (fun h => by cases h) ?b1 ?b7 (oneCell_eFlat _) B1.out B2.out B3.out ?b5)
  case b6 => rfl
  case b1 => rfl
  case b7 => exact sl_new' (by simp)
  intro v' w1 ho hg
  obtain ⟨a', c', rfl, hn', hs', hle'⟩ := owns_slice ho
  have HO1 := Lib.hid ho
  have BS1 := Lib.hid (show Box w1 v7.heap.size s from row_past BS.out hg (fun e => own_ne_box HO.out.row BS.out (by decide) e.symm))
  have HB := Lib.hid (show Below v6.heap.size v6 w1 from (HB67.out.trans (HA.out.mono HB67.out.size)).grown hg (HB67.out.trans (HA.out.mono HB67.out.size)).size (fun k hk => (HO.out.row.lt k hk).1))
  have HE1 := Lib.hid (fun e he => (show NewE v6.heap.size w1 e from (HO.out.ents e he).grown HO.out.row hg))
  clear ho hg hn' hs' hle' HA HO B1 B2 B3 BS NS
  have HGB := Lib.hid (show v6.heap.size ≤ v7.heap.size from HB67.out.size)
  obtain ⟨s', hs'⟩ : ∃ x : Con, x = ⟨s.num, s.kind, s.by', s.dl, s.to', s.want, s.price, s.reserve, s.step, s.of', a', c', s.es ++ [cE 2 9, cE 3 30]⟩ := ⟨_, rfl⟩
  go_wp2_with ((with_reducible refine at_store_op ?_); refine wpList_store_lit 23 v7.heap.size 10 #[.int .i64 s.num, .int .i64 s.kind, .int .i64 s.by', .int .i64 s.dl, .int .i64 s.to', .int .i64 s.want, .int .u64 s.price, .int .u64 s.reserve, .int .u64 s.step, .int .i64 s.of', .slice a' (s.es.length + 2) c'] (.slice a' (s.es.length + 2) c') BS1.out szEs (Nat.le_of_ble_eq_true rfl) rfl rfl ?_ ?_ ?_; exact rfl; exact rfl; intro w2 hp; obtain ⟨a0, a1, a2, a3, a4, a5, a6, a7, a8, a9, a10⟩ := (BD2.out.kept (hp.below HB.out HB.out.size HGB.out)).cells)
  have HB2 := Lib.hid (hp.below HB.out HB.out.size HGB.out)
  have hHS := hs'
  have BS2 := Lib.hid (show Box w2 v7.heap.size s' by rw [hHS]; unfold Box; simp only [List.length_append, List.length_cons, List.length_nil]; exact hp.at')
  have NS2 := Lib.hid (show NewC v6.heap.size w2 s' by
    rw [hHS]
    refine ⟨?_, fun e he => ?_, ?_⟩
    · have h1 := HO1.out.kept hp.grown (.inr (own_ne_box HO1.out BS1.out (by decide)))
      simp only [List.length_append, List.length_cons, List.length_nil, eFlat_append]
      exact h1
    · rcases List.mem_append.1 he with h | h
      · exact ⟨(HE1.out e h).row.kept hp.grown (.inr (own_ne_box (HE1.out e h).row BS1.out (by decide))), (HE1.out e h).mx, (HE1.out e h).wf, (HE1.out e h).iw, (HE1.out e h).cw, (HE1.out e h).pw⟩
      · simp only [List.mem_cons, List.not_mem_nil, or_false] at h
        rcases h with rfl | rfl
        · exact cE_new _ _ _ _ (by decide)
        · exact cE_new _ _ _ _ (by decide)
    · show (s.es ++ [cE 2 9, cE 3 30]).length ≤ 2513169434843
      rw [List.length_append, HLS.out]; decide)
  have DS2 := Lib.hid (show s'.d = (kC 3 10 0 [e7, cE 2 9, cE 3 30]).d by
    rw [hHS]
    have h := DS.out
    simp only [Con.d, Prod.mk.injEq] at h
    obtain ⟨⟨h1, h2, h3, h4, h5⟩, ⟨h6, h7, h8, h9, h10⟩, h11⟩ := h
    simp only [Con.d, h1, h2, h3, h4, h5, h6, h7, h8, h9, h10, List.map_append, h11]
    rfl)
  clear hs' hHS hp HB HO1 HE1 BS1 HLS DS HGB a0 a1 a2 a3 a4 a5 a6 a7 a8 a9 a10
  have BD2 := Lib.hid (BD2.out.kept HB2.out)
  have N2 := Lib.hid (N2.out.kept HB2.out)
  have HW := Lib.hid (HW.out.trans (HB2.out.mono HW.out.size))
  refine (end_k d2 (kC 2 10 5 [e7, cE 3 15]) w2 N2.out.ok D2.out ke1).mono ?_
  rintro r9 w3 ⟨ad4, cp4, rfl, hs, hb⟩
  have S4 := Lib.hid hs
  have BS2 := Lib.hid (BS2.out.kept hb)
  have NS2 := Lib.hid (NS2.out.kept hb)
  have HW := Lib.hid (HW.out.trans (hb.mono HW.out.size))
  clear hs hb BD2 N2 D2 HB2
  simp only [List.length_nil, List.length_cons]
  go_wp2_with fail
  have HA := Lib.hid (show Below w3.heap.size w3 (w3.alloc (.cells #[.int .i64 3, .int .i64 7, .int .u64 0, .int .i64 1, .int .i64 0, .int .u64 15] 64)) from (Below.refl _ _).alloc (Nat.le_refl _) _)
  refine (gifts_true ad4 (some ⟨w3.heap.size, 0, none⟩) cp4 2 [⟨3, 7, 0⟩, ⟨1, 0, 15⟩] _ (by decide) (S4.out.kept HA.out) (sl_new w3 (gFlat [⟨3, 7, 0⟩, ⟨1, 0, 15⟩]) 64 (0, 0))).mono ?_
  rintro r10 w4 ⟨rfl, hq⟩
  have HQ := Lib.hid (HA.out.trans ((hq.below (w3.alloc (.cells #[.int .i64 3, .int .i64 7, .int .u64 0, .int .i64 1, .int .i64 0, .int .u64 15] 64)).heap.size).mono HA.out.size))
  have BS2 := Lib.hid (BS2.out.kept HQ.out)
  have NS2 := Lib.hid (NS2.out.kept HQ.out)
  have HW := Lib.hid (HW.out.trans (HQ.out.mono HW.out.size))
  clear hq HA HQ S4
  obtain ⟨a0, a1, a2, a3, a4, a5, a6, a7, a8, a9, a10⟩ := BS2.out.cells
  go_wp2_with fail
  refine (end_k s' (kC 3 10 0 [e7, cE 2 9, cE 3 30]) w4 NS2.out.ok DS2.out ke2).mono ?_
  rintro r11 w5 ⟨ad5, cp5, rfl, hs, hb⟩
  have S5 := Lib.hid hs
  have HW := Lib.hid (HW.out.trans (hb.mono HW.out.size))
  clear hs hb BS2 NS2 DS2 a0 a1 a2 a3 a4 a5 a6 a7 a8 a9 a10
  simp only [List.length_nil, List.length_cons]
  go_wp2_with fail
  have HA := Lib.hid (show Below w5.heap.size w5 (w5.alloc (.cells #[.int .i64 3, .int .i64 7, .int .u64 0, .int .i64 2, .int .i64 0, .int .u64 9, .int .i64 1, .int .i64 0, .int .u64 10, .int .i64 3, .int .i64 0, .int .u64 20] 64)) from (Below.refl _ _).alloc (Nat.le_refl _) _)
  refine (gifts_true ad5 (some ⟨w5.heap.size, 0, none⟩) cp5 4 [⟨3, 7, 0⟩, ⟨2, 0, 9⟩, ⟨1, 0, 10⟩, ⟨3, 0, 20⟩] _ (by decide) (S5.out.kept HA.out) (sl_new w5 (gFlat [⟨3, 7, 0⟩, ⟨2, 0, 9⟩, ⟨1, 0, 10⟩, ⟨3, 0, 20⟩]) 64 (0, 0))).mono ?_
  rintro r12 w6 ⟨rfl, hq⟩
  have HQ := Lib.hid (HA.out.trans ((hq.below (w5.alloc (.cells #[.int .i64 3, .int .i64 7, .int .u64 0, .int .i64 2, .int .i64 0, .int .u64 9, .int .i64 1, .int .i64 0, .int .u64 10, .int .i64 3, .int .i64 0, .int .u64 20] 64)).heap.size).mono HA.out.size))
  have HW := Lib.hid (HW.out.trans (HQ.out.mono HW.out.size))
  clear hq HA HQ S5
  go_wp2
  go_ret
  exact ⟨rfl, HW.out⟩
end Go.Proofs.Ytpejcndfplbikaa
