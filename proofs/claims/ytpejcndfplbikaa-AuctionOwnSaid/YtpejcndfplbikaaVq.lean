/-
  Layer 21: Join, the program's.
-/
import Derived.Test.YtpejcndfplbikaaVs
namespace Go.Proofs.Ytpejcndfplbikaa
open Go.RowKit Go.K
set_option linter.unusedVariables false
set_option linter.unusedSimpArgs false
set_option maxRecDepth 100000 in
set_option maxHeartbeats 8000000 in
theorem join_any (c : Con) (e : Ent) (w : World) (hc : ConOk w c) (he : EntOk w e) : Calls Try.prog 10 #[c.agg, e.agg] w (JoinAns w c e) := by
  have HC := Lib.hid hc
  have HE := Lib.hid he
  have hm : c.es.length ≤ 2513169434843 := hc.mx
  have HKO := Lib.hid (fun V => open_any c V)
  clear hc he
  obtain ⟨xa, xi, xc, xp, xw, xk, xs⟩ := e
  unfold Con.agg at HKO
  unfold Con.agg Ent.agg
  simp only
  go_enter Try.func10, Try.ntmps10
  go_wp2_with fail
  have HB := Lib.hid (show Below w.heap.size w (((w.alloc (.cells #[.int .i64 c.num, .int .i64 c.kind, .int .i64 c.by', .int .i64 c.dl, .int .i64 c.to', .int .i64 c.want, .int .u64 c.price, .int .u64 c.reserve, .int .u64 c.step, .int .i64 c.of', .slice c.ea c.es.length c.ec] 25)).alloc (.cells #[.int .i64 xa, .int .i64 xi, .int .u64 xc, .int .u64 xp, .slice xw xs.length xk] 33)).alloc (.cells #[.int .i64 0, .int .i64 0, .int .i64 0, .int .i64 0, .int .i64 0, .int .i64 0, .int .u64 0, .int .u64 0, .int .u64 0, .int .i64 0, .slice none 0 0] 25)) from (((Below.refl _ _).alloc (Nat.le_refl _) _).alloc (by simp) _).alloc (by simp; omega) _)
  have R0 := Lib.hid (show (((w.alloc (.cells #[.int .i64 c.num, .int .i64 c.kind, .int .i64 c.by', .int .i64 c.dl, .int .i64 c.to', .int .i64 c.want, .int .u64 c.price, .int .u64 c.reserve, .int .u64 c.step, .int .i64 c.of', .slice c.ea c.es.length c.ec] 25)).alloc (.cells #[.int .i64 xa, .int .i64 xi, .int .u64 xc, .int .u64 xp, .slice xw xs.length xk] 33)).alloc (.cells #[.int .i64 0, .int .i64 0, .int .i64 0, .int .i64 0, .int .i64 0, .int .i64 0, .int .u64 0, .int .u64 0, .int .u64 0, .int .i64 0, .slice none 0 0] 25)).heap[w.heap.size]? = some (.cells #[.int .i64 c.num, .int .i64 c.kind, .int .i64 c.by', .int .i64 c.dl, .int .i64 c.to', .int .i64 c.want, .int .u64 c.price, .int .u64 c.reserve, .int .u64 c.step, .int .i64 c.of', .slice c.ea c.es.length c.ec] 25) from alloc_old (alloc_old (alloc_at rfl)))
  have R1 := Lib.hid (show (((w.alloc (.cells #[.int .i64 c.num, .int .i64 c.kind, .int .i64 c.by', .int .i64 c.dl, .int .i64 c.to', .int .i64 c.want, .int .u64 c.price, .int .u64 c.reserve, .int .u64 c.step, .int .i64 c.of', .slice c.ea c.es.length c.ec] 25)).alloc (.cells #[.int .i64 xa, .int .i64 xi, .int .u64 xc, .int .u64 xp, .slice xw xs.length xk] 33)).alloc (.cells #[.int .i64 0, .int .i64 0, .int .i64 0, .int .i64 0, .int .i64 0, .int .i64 0, .int .u64 0, .int .u64 0, .int .u64 0, .int .i64 0, .slice none 0 0] 25)).heap[w.heap.size + 1]? = some (.cells #[.int .i64 xa, .int .i64 xi, .int .u64 xc, .int .u64 xp, .slice xw xs.length xk] 33) from alloc_old (alloc_at (by simp)))
  have R2 := Lib.hid (show (((w.alloc (.cells #[.int .i64 c.num, .int .i64 c.kind, .int .i64 c.by', .int .i64 c.dl, .int .i64 c.to', .int .i64 c.want, .int .u64 c.price, .int .u64 c.reserve, .int .u64 c.step, .int .i64 c.of', .slice c.ea c.es.length c.ec] 25)).alloc (.cells #[.int .i64 xa, .int .i64 xi, .int .u64 xc, .int .u64 xp, .slice xw xs.length xk] 33)).alloc (.cells #[.int .i64 0, .int .i64 0, .int .i64 0, .int .i64 0, .int .i64 0, .int .i64 0, .int .u64 0, .int .u64 0, .int .u64 0, .int .i64 0, .slice none 0 0] 25)).heap[w.heap.size + 1 + 1]? = some (.cells #[.int .i64 0, .int .i64 0, .int .i64 0, .int .i64 0, .int .i64 0, .int .i64 0, .int .u64 0, .int .u64 0, .int .u64 0, .int .i64 0, .slice none 0 0] 25) from alloc_at (by simp))
  refine (HKO.out _).mono ?_
  rintro r0 w1 ⟨g, gc, rfl, hg, hgc, hh, hb⟩
  have HB1 := Lib.hid (HB.out.trans (hb.mono HB.out.size))
  have HH := Lib.hid hh
  have Q0 := Lib.hid (row_kept R0.out hb)
  have Q1 := Lib.hid (row_kept R1.out hb)
  have Q2 := Lib.hid (row_kept R2.out hb)
  have HG := Lib.hid (show w.heap.size + 1 + 1 < g by simp at hg; omega)
  have z1 := hh.kind
  have z2 := hh.by'
  obtain ⟨e0, e1, e2, e3, e4⟩ := cells5 Q1.out
  clear hg hgc hh hb HB HKO R0 R1 R2
  by_cases h : xa = c.by'
  case pos =>
    have HT := Lib.hid (show joinV c.kind c.by' c.reserve c.step (c.es.map Ent.d) (xa, xi, xc, xp, xs) = 234 by unfold joinV; rw [if_pos h])
    have c0 : (xa == c.by') = true := by simpa using h
    clear h
    go_wp2
    go_quiet (fail)
    go_wp2_with ((with_reducible refine at_store_op ?_); refine wpList_store_lit 25 (w.heap.size + 1 + 1) 0 #[.int .i64 0, .int .i64 0, .int .i64 0, .int .i64 0, .int .i64 0, .int .i64 0, .int .u64 0, .int .u64 0, .int .u64 0, .int .i64 0, .slice none 0 0] (.agg #[.int .i64 0, .int .i64 0, .int .i64 0, .int .i64 0, .int .i64 0, .int .i64 0, .int .u64 0, .int .u64 0, .int .u64 0, .int .i64 0, .slice none 0 0]) Q2.out szC (Nat.le_of_ble_eq_true rfl) rfl rfl ?_ ?_ ?_; exact rfl; exact rfl; intro w9 hp9)
    have hb9 := HB1.out.trans ((Qt.drewN w1 nq).below _)
    have HB9 := hp9.below hb9 hb9.size (by omega)
    exact bodyPost_ret (results_row_tmp3 Try.results10 _ _ (w.heap.size + 1 + 1) 25 _ _ _ rfl hp9.at' Try.underlying25 rfl szC) rfl (joinA_no 234 HT.out (by decide) rfl HB9)
  have c0 : (xa == c.by') = false := by simpa using h
  have HA := Lib.hid h
  clear h
  go_wp2
  go_quiet (fail)
  obtain ⟨w2, hw2⟩ : ∃ W, W = w1.drewN nq := ⟨_, rfl⟩
  have hq : Qt w1 w2 := hw2 ▸ Qt.drewN w1 nq
  rw [← hw2]
  have HB2 := Lib.hid (HB1.out.trans (hq.below _))
  have HH2 := Lib.hid (HH.out.kept (hq.below _))
  have R0 := Lib.hid (row_kept Q0.out (hq.below _))
  have R1 := Lib.hid (row_kept Q1.out (hq.below _))
  have R2 := Lib.hid (row_kept Q2.out (hq.below _))
  clear hw2 hq z1 z2 e0 e1 e2 e3 e4 HB1 HH Q0 Q1 Q2 c0
  obtain ⟨e0, e1, e2, e3, e4⟩ := cells5 R1.out
  have z10 := HH2.out.es
  have z11 := HH2.out.wins
  by_cases hk : c.kind = 2 ∨ c.kind = 3
  case neg =>
    have hwn : winsV c.kind gc = .nilFunc := by unfold winsV; rw [if_neg (by omega), if_neg (by omega)]
    rw [hwn] at z11
    have q0 := fun W => eql73n W
    clear hwn
    have HT := Lib.hid (show joinV c.kind c.by' c.reserve c.step (c.es.map Ent.d) (xa, xi, xc, xp, xs) = 200 by unfold joinV; rw [if_neg HA.out, if_neg (fun hh => hk hh.1)])
    clear hk
    go_wp2_with ((with_reducible refine at_store_op ?_); refine wpList_store_lit 25 (w.heap.size + 1 + 1) 0 #[.int .i64 0, .int .i64 0, .int .i64 0, .int .i64 0, .int .i64 0, .int .i64 0, .int .u64 0, .int .u64 0, .int .u64 0, .int .i64 0, .slice none 0 0] (.agg #[.int .i64 0, .int .i64 0, .int .i64 0, .int .i64 0, .int .i64 0, .int .i64 0, .int .u64 0, .int .u64 0, .int .u64 0, .int .i64 0, .slice none 0 0]) R2.out szC (Nat.le_of_ble_eq_true rfl) rfl rfl ?_ ?_ ?_; exact rfl; exact rfl; intro w9 hp9)
    have hb9 := HB2.out
    have HB9 := hp9.below hb9 hb9.size (by omega)
    exact bodyPost_ret (results_row_tmp3 Try.results10 _ _ (w.heap.size + 1 + 1) 25 _ _ _ rfl hp9.at' Try.underlying25 rfl szC) rfl (joinA_no 200 HT.out (by decide) rfl HB9)
  have HWF : ∃ f : FuncId, winsV c.kind gc = .func (.func f) #[] #[.pointer (some ⟨gc, 0, none⟩)] := by
    unfold winsV; rcases hk with h | h <;> rw [h]
    · exact ⟨51, rfl⟩
    · exact ⟨52, rfl⟩
  obtain ⟨fw, hfw⟩ := HWF
  have HWV := Lib.hid hfw
  rw [hfw] at z11
  have q0 := fun f a b W => eql73 f a b W
  have HK := Lib.hid hk
  clear hfw hk
  by_cases h : c.es.length = 0
  case pos =>
    have HT := Lib.hid (show joinV c.kind c.by' c.reserve c.step (c.es.map Ent.d) (xa, xi, xc, xp, xs) = 200 by unfold joinV; rw [if_neg HA.out, if_neg (fun hh => hh.2.1 (by rw [List.length_map]; exact h))])
    have c1 : ((c.es.length : Int) == 0) = true := by rw [h]; rfl
    clear h
    go_wp2_with ((with_reducible refine at_store_op ?_); refine wpList_store_lit 25 (w.heap.size + 1 + 1) 0 #[.int .i64 0, .int .i64 0, .int .i64 0, .int .i64 0, .int .i64 0, .int .i64 0, .int .u64 0, .int .u64 0, .int .u64 0, .int .i64 0, .slice none 0 0] (.agg #[.int .i64 0, .int .i64 0, .int .i64 0, .int .i64 0, .int .i64 0, .int .i64 0, .int .u64 0, .int .u64 0, .int .u64 0, .int .i64 0, .slice none 0 0]) R2.out szC (Nat.le_of_ble_eq_true rfl) rfl rfl ?_ ?_ ?_; exact rfl; exact rfl; intro w9 hp9)
    have hb9 := HB2.out
    have HB9 := hp9.below hb9 hb9.size (by omega)
    exact bodyPost_ret (results_row_tmp3 Try.results10 _ _ (w.heap.size + 1 + 1) 25 _ _ _ rfl hp9.at' Try.underlying25 rfl szC) rfl (joinA_no 200 HT.out (by decide) rfl HB9)
  have c1 : ((c.es.length : Int) == 0) = false := by simp; intro e; exact h (by rw [e]; rfl)
  have hn1 : 1 ≤ c.es.length := by omega
  clear h
  by_cases h : xi = 0
  case neg =>
    have HT := Lib.hid (show joinV c.kind c.by' c.reserve c.step (c.es.map Ent.d) (xa, xi, xc, xp, xs) = 200 by unfold joinV; rw [if_neg HA.out, if_neg (fun hh => h hh.2.2.1)])
    have cb : (xi != 0) = true := by simpa using h
    clear h
    go_wp2_with ((with_reducible refine at_store_op ?_); refine wpList_store_lit 25 (w.heap.size + 1 + 1) 0 #[.int .i64 0, .int .i64 0, .int .i64 0, .int .i64 0, .int .i64 0, .int .i64 0, .int .u64 0, .int .u64 0, .int .u64 0, .int .i64 0, .slice none 0 0] (.agg #[.int .i64 0, .int .i64 0, .int .i64 0, .int .i64 0, .int .i64 0, .int .i64 0, .int .u64 0, .int .u64 0, .int .u64 0, .int .i64 0, .slice none 0 0]) R2.out szC (Nat.le_of_ble_eq_true rfl) rfl rfl ?_ ?_ ?_; exact rfl; exact rfl; intro w9 hp9)
    have hb9 := HB2.out
    have HB9 := hp9.below hb9 hb9.size (by omega)
    exact bodyPost_ret (results_row_tmp3 Try.results10 _ _ (w.heap.size + 1 + 1) 25 _ _ _ rfl hp9.at' Try.underlying25 rfl szC) rfl (joinA_no 200 HT.out (by decide) rfl HB9)
  have cxi : (xi != 0) = false := by simpa using h
  have Hxi := Lib.hid h
  clear h
  by_cases h : xp = 0
  case neg =>
    have HT := Lib.hid (show joinV c.kind c.by' c.reserve c.step (c.es.map Ent.d) (xa, xi, xc, xp, xs) = 200 by unfold joinV; rw [if_neg HA.out, if_neg (fun hh => h hh.2.2.2.1)])
    have cb : (xp != 0) = true := by simpa using h
    clear h
    go_wp2_with ((with_reducible refine at_store_op ?_); refine wpList_store_lit 25 (w.heap.size + 1 + 1) 0 #[.int .i64 0, .int .i64 0, .int .i64 0, .int .i64 0, .int .i64 0, .int .i64 0, .int .u64 0, .int .u64 0, .int .u64 0, .int .i64 0, .slice none 0 0] (.agg #[.int .i64 0, .int .i64 0, .int .i64 0, .int .i64 0, .int .i64 0, .int .i64 0, .int .u64 0, .int .u64 0, .int .u64 0, .int .i64 0, .slice none 0 0]) R2.out szC (Nat.le_of_ble_eq_true rfl) rfl rfl ?_ ?_ ?_; exact rfl; exact rfl; intro w9 hp9)
    have hb9 := HB2.out
    have HB9 := hp9.below hb9 hb9.size (by omega)
    exact bodyPost_ret (results_row_tmp3 Try.results10 _ _ (w.heap.size + 1 + 1) 25 _ _ _ rfl hp9.at' Try.underlying25 rfl szC) rfl (joinA_no 200 HT.out (by decide) rfl HB9)
  have cxp : (xp != 0) = false := by simpa using h
  have Hxp := Lib.hid h
  clear h
  by_cases h : xs.length = 0
  case neg =>
    have HT := Lib.hid (show joinV c.kind c.by' c.reserve c.step (c.es.map Ent.d) (xa, xi, xc, xp, xs) = 200 by unfold joinV; rw [if_neg HA.out, if_neg (fun hh => h hh.2.2.2.2)])
    have cb : decide ((xs.length : Int) > 0) = true := decide_eq_true (by omega)
    have cb' : 0 < xs.length := by omega
    clear h
    go_wp2_with ((with_reducible refine at_store_op ?_); refine wpList_store_lit 25 (w.heap.size + 1 + 1) 0 #[.int .i64 0, .int .i64 0, .int .i64 0, .int .i64 0, .int .i64 0, .int .i64 0, .int .u64 0, .int .u64 0, .int .u64 0, .int .i64 0, .slice none 0 0] (.agg #[.int .i64 0, .int .i64 0, .int .i64 0, .int .i64 0, .int .i64 0, .int .i64 0, .int .u64 0, .int .u64 0, .int .u64 0, .int .i64 0, .slice none 0 0]) R2.out szC (Nat.le_of_ble_eq_true rfl) rfl rfl ?_ ?_ ?_; exact rfl; exact rfl; intro w9 hp9)
    have hb9 := HB2.out
    have HB9 := hp9.below hb9 hb9.size (by omega)
    exact bodyPost_ret (results_row_tmp3 Try.results10 _ _ (w.heap.size + 1 + 1) 25 _ _ _ rfl hp9.at' Try.underlying25 rfl szC) rfl (joinA_no 200 HT.out (by decide) rfl HB9)
  have cs : decide ((xs.length : Int) > 0) = false := decide_eq_false (by omega)
  have cs' : ¬ 0 < xs.length := by omega
  have HJ := Lib.hid (show joinV c.kind c.by' c.reserve c.step (c.es.map Ent.d) (xa, xi, xc, xp, xs) = if lowV c.kind c.reserve c.step (c.es.map Ent.d) xc = true then 210 else if c.kind = 3 ∧ hasD ((c.es.map Ent.d).drop 1) xa = true then 236 else if c.kind = 3 ∧ 16 ≤ (c.es.map Ent.d).length then 232 else 0 by
    unfold joinV; rw [if_neg HA.out, if_pos ⟨HK.out, by rw [List.length_map]; omega, Hxi.out, Hxp.out, h⟩])
  clear h
  have HKL := Lib.hid (low_any c g gc xc w2 HE.out.cw (HC.out.kept HB2.out) HH2.out)
  go_wp2_with fail
  refine HKL.out.mono ?_
  rintro r1 w3 ⟨rfl, hq⟩
  have HB3 := Lib.hid (HB2.out.trans (hq.below _))
  have HH3 := Lib.hid (HH2.out.kept (hq.below _))
  have Q0 := Lib.hid (row_kept R0.out (hq.below _))
  have Q1 := Lib.hid (row_kept R1.out (hq.below _))
  have Q2 := Lib.hid (row_kept R2.out (hq.below _))
  clear hq z10 z11 e0 e1 e2 e3 e4 HB2 HH2 R0 R1 R2 q0 HKL
  by_cases h : lowV c.kind c.reserve c.step (c.es.map Ent.d) xc = true
  case pos =>
    have HT := Lib.hid (show joinV c.kind c.by' c.reserve c.step (c.es.map Ent.d) (xa, xi, xc, xp, xs) = 210 by unfold joinV; rw [if_neg HA.out, if_pos ⟨HK.out, by rw [List.length_map]; omega, Hxi.out, Hxp.out, by show xs.length = 0; omega⟩, if_pos h])
    rw [h]
    clear h
    go_wp2_with ((with_reducible refine at_store_op ?_); refine wpList_store_lit 25 (w.heap.size + 1 + 1) 0 #[.int .i64 0, .int .i64 0, .int .i64 0, .int .i64 0, .int .i64 0, .int .i64 0, .int .u64 0, .int .u64 0, .int .u64 0, .int .i64 0, .slice none 0 0] (.agg #[.int .i64 0, .int .i64 0, .int .i64 0, .int .i64 0, .int .i64 0, .int .i64 0, .int .u64 0, .int .u64 0, .int .u64 0, .int .i64 0, .slice none 0 0]) Q2.out szC (Nat.le_of_ble_eq_true rfl) rfl rfl ?_ ?_ ?_; exact rfl; exact rfl; intro w9 hp9)
    have hb9 := HB3.out
    have HB9 := hp9.below hb9 hb9.size (by omega)
    exact bodyPost_ret (results_row_tmp3 Try.results10 _ _ (w.heap.size + 1 + 1) 25 _ _ _ rfl hp9.at' Try.underlying25 rfl szC) rfl (joinA_no 210 HT.out (by decide) rfl HB9)
  have HJ2 := Lib.hid (HJ.out.trans (if_neg h))
  have hlv : lowV c.kind c.reserve c.step (c.es.map Ent.d) xc = false := by simpa using h
  rw [hlv]
  clear h HJ hlv

  by_cases hk3 : c.kind = 3
  case pos =>
    have c3 : (c.kind == 3) = true := by simpa using hk3
    have z10 := HH3.out.es
    have e0 := (cells5 Q1.out).1
    have hcl : (c.es.drop 1).length = c.es.length - 1 := by simp
    have hrS : ∀ W, (Instr.slice 23 (.slice c.ea c.es.length c.ec) (some (.int .i64 1)) none none).run Try.prog W = .ok (.slice (piece c.ea 1 c.ec 5) (c.es.length - 1) (c.ec - 1)) W := fun W => run_slice_lo Try.underlying23 szE c.ea c.es.length c.ec .i64 1 1 (c.es.length - 1) rfl (by omega) W
    have hkc := (contains_any (piece c.ea 1 c.ec 5) (c.ec - 1) (c.es.drop 1) xa (w.heap.size + 1) w3 (by omega) (by
      rw [eFlat_drop1]
      exact sl_piece ((HC.out.kept HB3.out).sl) 1 c.ec 5 (by rw [eFlat_length]; have := HC.out.le; omega)) e0)
    rw [hcl] at hkc
    have HKC := Lib.hid hkc
    have HHD := Lib.hid (show hasA (c.es.drop 1) xa = hasD ((c.es.map Ent.d).drop 1) xa by rw [hasA_d, List.map_drop])
    have HK3 := Lib.hid hk3
    rw [c3]
    clear hcl hk3 c3 hkc
    go_wp2_with fail
    refine HKC.out.mono ?_
    rintro r2 w4 ⟨rfl, hb⟩
    have HB4 := Lib.hid (HB3.out.trans (hb.mono HB3.out.size))
    have HH4 := Lib.hid (HH3.out.kept hb)
    have R0 := Lib.hid (row_kept Q0.out hb)
    have R1 := Lib.hid (row_kept Q1.out hb)
    have R2 := Lib.hid (row_kept Q2.out hb)
    clear hb z10 e0 hrS HKC HB3 HH3 Q0 Q1 Q2
    by_cases h : hasA (c.es.drop 1) xa = true
    case pos =>
      have HT := Lib.hid (show joinV c.kind c.by' c.reserve c.step (c.es.map Ent.d) (xa, xi, xc, xp, xs) = 236 from HJ2.out.trans (if_pos ⟨HK3.out, by rw [← HHD.out]; exact h⟩))
      rw [h]
      clear h
      go_wp2_with ((with_reducible refine at_store_op ?_); refine wpList_store_lit 25 (w.heap.size + 1 + 1) 0 #[.int .i64 0, .int .i64 0, .int .i64 0, .int .i64 0, .int .i64 0, .int .i64 0, .int .u64 0, .int .u64 0, .int .u64 0, .int .i64 0, .slice none 0 0] (.agg #[.int .i64 0, .int .i64 0, .int .i64 0, .int .i64 0, .int .i64 0, .int .i64 0, .int .u64 0, .int .u64 0, .int .u64 0, .int .i64 0, .slice none 0 0]) R2.out szC (Nat.le_of_ble_eq_true rfl) rfl rfl ?_ ?_ ?_; exact rfl; exact rfl; intro w9 hp9)
      have hb9 := HB4.out
      have HB9 := hp9.below hb9 hb9.size (by omega)
      exact bodyPost_ret (results_row_tmp3 Try.results10 _ _ (w.heap.size + 1 + 1) 25 _ _ _ rfl hp9.at' Try.underlying25 rfl szC) rfl (joinA_no 236 HT.out (by decide) rfl HB9)
    have HJ3 := Lib.hid (HJ2.out.trans (if_neg (fun hh => h (by rw [HHD.out]; exact hh.2))))
    have hha : hasA (c.es.drop 1) xa = false := by simpa using h
    rw [hha]
    clear h hha
    have z10 := HH4.out.es
    by_cases h : 16 ≤ c.es.length
    case pos =>
      have HT := Lib.hid (show joinV c.kind c.by' c.reserve c.step (c.es.map Ent.d) (xa, xi, xc, xp, xs) = 232 from HJ3.out.trans (if_pos ⟨HK3.out, by rw [List.length_map]; exact h⟩))
      have c16 : decide ((c.es.length : Int) ≥ 16) = true := by simp; omega
      clear h
      go_wp2_with ((with_reducible refine at_store_op ?_); refine wpList_store_lit 25 (w.heap.size + 1 + 1) 0 #[.int .i64 0, .int .i64 0, .int .i64 0, .int .i64 0, .int .i64 0, .int .i64 0, .int .u64 0, .int .u64 0, .int .u64 0, .int .i64 0, .slice none 0 0] (.agg #[.int .i64 0, .int .i64 0, .int .i64 0, .int .i64 0, .int .i64 0, .int .i64 0, .int .u64 0, .int .u64 0, .int .u64 0, .int .i64 0, .slice none 0 0]) R2.out szC (Nat.le_of_ble_eq_true rfl) rfl rfl ?_ ?_ ?_; exact rfl; exact rfl; intro w9 hp9)
      have hb9 := HB4.out
      have HB9 := hp9.below hb9 hb9.size (by omega)
      exact bodyPost_ret (results_row_tmp3 Try.results10 _ _ (w.heap.size + 1 + 1) 25 _ _ _ rfl hp9.at' Try.underlying25 rfl szC) rfl (joinA_no 232 HT.out (by decide) rfl HB9)
    have c16 : decide ((c.es.length : Int) ≥ 16) = false := by simp; omega
    have HJ4 := Lib.hid (HJ3.out.trans (if_neg (fun hh => h (by have := hh.2; rw [List.length_map] at this; exact this))))
    have HN16 := Lib.hid h
    clear h z10
    have HT := Lib.hid (show joinV c.kind c.by' c.reserve c.step (c.es.map Ent.d) (xa, xi, xc, xp, xs) = 0 from HJ4.out)
    obtain ⟨wv, hwv⟩ : ∃ x, x = winsV c.kind gc := ⟨_, rfl⟩
    obtain ⟨ob, oo, hea, _⟩ := HC.out.ent 0 (by omega)
    have HEA := Lib.hid hea
    have HRG := Lib.hid (show w4.heap[g]? = some (.cells #[.int .i64 c.num, .int .i64 c.kind, .int .i64 c.by', .int .i64 c.dl, .int .i64 c.to', .int .i64 c.want, .int .u64 c.price, .int .u64 c.reserve, .int .u64 c.step, .int .i64 c.of', .slice (some ⟨ob, oo, none⟩) c.es.length c.ec, wv] 75) by have h := HH4.out.row; unfold Con.hall at h; rw [← hwv, hea] at h; exact h)
    have z10 : w4.cell? ⟨g, 10, none⟩ = some (.slice (some ⟨ob, oo, none⟩) c.es.length c.ec) := by rw [cell_of_row _ _ _ _ _ _ HRG.out]; rfl
    have HFE := Lib.hid (show ∀ V, Below w.heap.size w V → ∀ j (hj : j < c.es.length), V.cell? ⟨ob, oo + j * 5, none⟩ = some (.int .i64 c.es[j].acc) ∧ V.cell? ⟨ob, oo + j * 5 + 1, none⟩ = some (.int .i64 c.es[j].item) ∧ V.cell? ⟨ob, oo + j * 5 + 2, none⟩ = some (.int .u64 c.es[j].coins) ∧
    V.cell? ⟨ob, oo + j * 5 + 3, none⟩ = some (.int .u64 c.es[j].price) ∧ V.cell? ⟨ob, oo + j * 5 + 4, none⟩ = some (.slice c.es[j].wa c.es[j].ws.length c.es[j].wc) from fun V h j hj => by
  obtain ⟨_, _, he, f⟩ := (HC.out.kept h).ent j hj
  rw [HEA.out] at he
  cases he
  exact f)
    clear hwv hea
    go_wp2_with ((with_reducible refine at_store_op ?_); refine wpList_store_lit 23 g 10 #[.int .i64 c.num, .int .i64 c.kind, .int .i64 c.by', .int .i64 c.dl, .int .i64 c.to', .int .i64 c.want, .int .u64 c.price, .int .u64 c.reserve, .int .u64 c.step, .int .i64 c.of', .slice none 0 0, wv] (.slice none 0 0) HRG.out szEs (Nat.le_of_ble_eq_true rfl) rfl rfl ?_ ?_ ?_; exact rfl; exact rfl; intro w5 hp5)
    obtain ⟨B, hBdef⟩ : ∃ B, B = w4.heap.size := ⟨_, rfl⟩
    have HI0 := Lib.hid (show JI w g B (fun v => #[.int .i64 c.num, .int .i64 c.kind, .int .i64 c.by', .int .i64 c.dl, .int .i64 c.to', .int .i64 c.want, .int .u64 c.price, .int .u64 c.reserve, .int .u64 c.step, .int .i64 c.of', v, wv]) 75 #[.int .i64 c.num, .int .i64 c.kind, .int .i64 c.by', .int .i64 c.dl, .int .i64 c.to', .int .i64 c.want, .int .u64 c.price, .int .u64 c.reserve, .int .u64 c.step, .int .i64 c.of', .slice c.ea c.es.length c.ec] #[.int .i64 xa, .int .i64 xi, .int .u64 xc, .int .u64 xp, .slice xw xs.length xk] #[.int .i64 0, .int .i64 0, .int .i64 0, .int .i64 0, .int .i64 0, .int .i64 0, .int .u64 0, .int .u64 0, .int .u64 0, .int .i64 0, .slice none 0 0] w5 (.slice none 0 0) (.slice none 0 0) [] (gsK c.kind (c.es.map Ent.d) 0) by
  rw [gsK_lt (by rw [List.length_map]; omega), hBdef]
  exact ⟨hp5.below HB4.out HB4.out.size (by have := HG.out; omega), hp5.at', hp5.row R0.out (by have := HG.out; omega), hp5.row R1.out (by have := HG.out; omega), hp5.row R2.out (by have := HG.out; omega), World.ownsRow_nil _ _ _ _, (fun x hx => by cases hx), World.ownsRow_nil _ _ _ _, lt_row HRG.out, HG.out, by rw [hp5.size]; exact Nat.le_refl _⟩)
    clear hp5 hBdef z10 HRG HB4 HH4 R0 R1 R2
    go_loopw [12, 13, 14, 98] (fun v12 x13 x14 i wr => ∃ (j : Nat) (gv ev : Value) (ls : List Ent), gv = v12 ∧ j ≤ c.es.length ∧ i = .int .i64 j ∧ ls.length = keptN c.kind c.es.length j ∧ ls.map Ent.d = (c.es.map Ent.d).take (keptN c.kind c.es.length j) ∧ JI w g B (fun v => #[.int .i64 c.num, .int .i64 c.kind, .int .i64 c.by', .int .i64 c.dl, .int .i64 c.to', .int .i64 c.want, .int .u64 c.price, .int .u64 c.reserve, .int .u64 c.step, .int .i64 c.of', v, wv]) 75 #[.int .i64 c.num, .int .i64 c.kind, .int .i64 c.by', .int .i64 c.dl, .int .i64 c.to', .int .i64 c.want, .int .u64 c.price, .int .u64 c.reserve, .int .u64 c.step, .int .i64 c.of', .slice c.ea c.es.length c.ec] #[.int .i64 xa, .int .i64 xi, .int .u64 xc, .int .u64 xp, .slice xw xs.length xk] #[.int .i64 0, .int .i64 0, .int .i64 0, .int .i64 0, .int .i64 0, .int .i64 0, .int .u64 0, .int .u64 0, .int .u64 0, .int .i64 0, .slice none 0 0] wr ev gv ls (gsK c.kind (c.es.map Ent.d) j)) (fun _ _ _ i _ => c.es.length - (intOf i).toNat)
    case atStart => exact ⟨0, _, _, [], rfl, by omega, rfl, by rw [keptN_lt (by omega)]; rfl, by rw [keptN_lt (by omega)]; rfl, HI0.out⟩
    case round =>
      clear HI0
      obtain ⟨j, gv, ev, ls, hgv, hj, rfl, hll, hld, hi⟩ := hrel
      subst hgv
      have HI := Lib.hid hi
      have HLL := Lib.hid hll
      have HLD := Lib.hid hld
      have hls : ls.length ≤ 2513169434843 := by have h : keptN c.kind c.es.length j ≤ j := (by unfold keptN; split <;> omega); omega
      have LB1 := Lib.hid (show ls.length + 1 ≤ maxLen by unfold maxLen; omega)
      have LB2 := Lib.hid (show (ls.length + 1) * 56 ≤ 140737488355328 by omega)
      have HNG := Lib.hid (show some g ≠ ev.ownBlock from fun h => by have := (hi.oe.lt _ h.symm).1; have := hi.gB; omega)
      clear hi hll hld
      by_cases hlt : j < c.es.length
      · have t0 : decide ((j : Int) < (c.es.length : Int)) = true := by simp; omega
        have i1 : (j : Int) < (c.es.length : Int) := by omega
        obtain ⟨f0, f1, f2, f3, f4⟩ := HFE.out _ HI.out.bel j hlt
        have HXD := Lib.hid (show (c.es.map Ent.d).take (j + 1) = (c.es.map Ent.d).take j ++ [c.es[j].d] by rw [List.take_succ_eq_append_getElem (by simpa using hlt)]; simp)
        have HK39 := Lib.hid (fun V (h : Below w.heap.size w V) => copied_any c.es[j] V ((HC.out.ents _ (List.getElem_mem hlt)).kept h))
        have HK38 := Lib.hid (fun V (h : Below wr.heap.size wr V) => back_any B gv _ _ c.es[j] V (Nat.le_trans HI.out.sz h.size) (by rw [gsK_lt (by rw [List.length_map]; exact hlt)]; exact Nat.zero_le _) (owns_below (B := 0) HI.out.og h))
        have HBK := Lib.hid (Ent.back_d c.es j hlt)
        generalize c.es[j] = x at *
        obtain ⟨qa, qi, qc, qp, qw, qk, qs⟩ := x
        unfold Ent.agg at HK39 HK38
        simp only at HK39 HK38 f0 f1 f2 f3 f4
        obtain ⟨V0, hV0⟩ : ∃ W, W = wr.alloc (.cells #[.int .i64 qa, .int .i64 qi, .int .u64 qc, .int .u64 qp, .slice qw qs.length qk] 33) := ⟨_, rfl⟩
        have HV0 := Lib.hid hV0
        have hbv : Below wr.heap.size wr V0 := by rw [hV0]; exact (Below.refl _ _).alloc (Nat.le_refl _) _
        have HIV := Lib.hid (HI.out.kept hbv)
        have HBV := Lib.hid hbv
        have HRX := Lib.hid (show V0.heap[wr.heap.size]? = some (.cells #[.int .i64 qa, .int .i64 qi, .int .u64 qc, .int .u64 qp, .slice qw qs.length qk] 33) by rw [hV0]; exact alloc_at rfl)
        have HNB := Lib.hid (show some wr.heap.size ≠ ev.ownBlock from fun h => by have := (HI.out.oe.lt _ h.symm).2; omega)
        have HNX := Lib.hid (show wr.heap.size ≠ g from fun h => by have := HI.out.sz; have := HI.out.gB; omega)
        have HGJ := Lib.hid (gsK_lt (k := c.kind) (l := c.es.map Ent.d) (j := j) (by rw [List.length_map]; exact hlt))
        have HKJ := Lib.hid (keptN_lt (k := c.kind) hlt)
        clear hV0 hbv
        go_wp2
        rw [← HV0.out]
        have hdr : Below V0.heap.size V0 V0.drew := (Qt.drewN V0 1).below _
        have hD0 : Below w.heap.size w V0.drew := HIV.out.bel.trans (hdr.mono HIV.out.bel.size)
        have hnb : some (wr.heap.size) ≠ ev.ownBlock := HNB.out
        refine wp_region_front 7 10 (fun V => V.heap[g]? = some (.cells #[.int .i64 c.num, .int .i64 c.kind, .int .i64 c.by', .int .i64 c.dl, .int .i64 c.to', .int .i64 c.want, .int .u64 c.price, .int .u64 c.reserve, .int .u64 c.step, .int .i64 c.of', ev, wv] 75) ∧ V.heap[wr.heap.size]? = some (.cells #[.int .i64 qa, .int .i64 qi, .int .u64 qc, .int .u64 qp, .slice qw qs.length qk] 33)) (by kernel_rfl) (by kernel_rfl) ⟨row_kept HIV.out.rg hdr, row_kept HRX.out hdr⟩ ?_
        simp only [List.take_succ_cons, List.take_zero, List.drop_succ_cons, List.drop_zero]
        iterate 7
          apply wpPure_cons
          · rfl
          · intro Wx hw
            have k10 : Wx.cell? ⟨g, 10, none⟩ = some ev := by rw [cell_of_row _ _ _ _ _ _ hw.1]; rfl
            obtain ⟨u0, u1, u2, u3, u4⟩ := cells5 hw.2
            go_simp
            exact ⟨rfl, rfl⟩
          try simp only [Act.put, List.setIfInBounds_toArray, List.set_cons_zero, List.set_cons_succ]
        refine wpPure_nil (wpLoud_cons (by rfl) ?_)
        go_simp
        show Calls _ _ _ _ _
        refine (HK39.out _ hD0).mono ?_
        rintro e1' w6 ⟨⟨ya, yi, yc, yp, yw, yk, ys⟩, rfl, hyd, hnew, hb6⟩
        have hb0 := hdr.trans hb6
        have hI6 := HIV.out.kept hb0
        have r6 := row_kept HRX.out hb0
        refine ⟨_, rfl, ⟨hI6.rg, r6⟩, wpLoud_cons (by rfl) ?_⟩
        try simp only [Act.put, List.setIfInBounds_toArray, List.set_cons_zero, List.set_cons_succ]
        go_simp
        refine ⟨⟨alloc_old hI6.rg, alloc_old r6⟩, wpLoud_cons (by rfl) ?_⟩
        try simp only [Act.put, List.setIfInBounds_toArray, List.set_cons_zero, List.set_cons_succ]
        refine loud_append _ _ 23 (by rfl) B 33 (.agg #[.int .i64 0, .int .i64 0, .int .u64 0, .int .u64 0, .slice none 0 0]) 5 56 Try.underlying23 infoE (by rfl) (by decide) ev _ _ (by rfl) (hI6.oe.alloc _) ⟨w6.heap.size, 0, none⟩ 1 1 (eFlat [⟨ya, yi, yc, yp, yw, yk, ys⟩]) (by rfl) (by rfl) (sl_new _ _ _ _) (oneCell_eFlat _) LB1.out LB2.out (Nat.le_trans hI6.sz (by simp)) ?_
        intro v2 w7 ho7 hg7
        obtain ⟨ad2, cp2, rfl, _⟩ := owns_slice ho7
        have g7 : w7.heap[g]? = some (.cells #[.int .i64 c.num, .int .i64 c.kind, .int .i64 c.by', .int .i64 c.dl, .int .i64 c.to', .int .i64 c.want, .int .u64 c.price, .int .u64 c.reserve, .int .u64 c.step, .int .i64 c.of', ev, wv] 75) := row_past (alloc_old hI6.rg) hg7 HNG.out
        refine ⟨⟨g7, row_past (alloc_old r6) hg7 hnb⟩, wpLoud_nil ?_⟩
        try simp only [Act.put, List.setIfInBounds_toArray, List.set_cons_zero, List.set_cons_succ]
        go_wp2_with ((with_reducible refine at_store_op ?_); refine wpList_store_lit 23 g 10 #[.int .i64 c.num, .int .i64 c.kind, .int .i64 c.by', .int .i64 c.dl, .int .i64 c.to', .int .i64 c.want, .int .u64 c.price, .int .u64 c.reserve, .int .u64 c.step, .int .i64 c.of', .slice ad2 (ls.length + 1) cp2, wv] (.slice ad2 (ls.length + 1) cp2) g7 szEs (Nat.le_of_ble_eq_true rfl) rfl rfl ?_ ?_ ?_; exact rfl; exact rfl)
        intro w8 hp8
        all_goals
          have HF := Lib.hid (HIV.out.push hb0 hnew hg7 ho7 hp8)
          have HYD := Lib.hid hyd
          clear hb0 hnew hg7 ho7 hp8 hyd hI6 hb6 hdr hD0 hnb r6 g7
          go_wp2
          go_roundw
          case rel =>
            have hk1 : keptN c.kind c.es.length (j + 1) = j + 1 := if_neg (by have := HK3.out; omega)
            have hg1 : gsK c.kind (c.es.map Ent.d) (j + 1) = gsK c.kind (c.es.map Ent.d) j := by rw [HGJ.out]; exact if_neg (by rw [List.length_map]; have := HK3.out; omega)
            refine ⟨j + 1, _, _, ls ++ [⟨ya, yi, yc, yp, yw, yk, ys⟩], rfl, by omega, by go_num, ?_, ?_, by rw [hg1]; exact HF.out⟩
            · rw [hk1, List.length_append, HLL.out, HKJ.out]; rfl
            · rw [hk1, HXD.out, List.map_append, HLD.out, HKJ.out, List.map_cons, List.map_nil, HYD.out]
          case measure => simp [intOf]; omega
      · have t0 : decide ((j : Int) < (c.es.length : Int)) = false := by simp; omega
        have HJN := Lib.hid (show j = c.es.length by omega)
        have HK39 := Lib.hid (fun V (h : Below w.heap.size w V) => copied_any ⟨xa, xi, xc, xp, xw, xk, xs⟩ V (HE.out.kept h))
        unfold Ent.agg at HK39
        simp only at HK39
        have HRX := Lib.hid HI.out.re
        have HNB := Lib.hid (show some (w.heap.size + 1) ≠ ev.ownBlock from fun h => by have := (HI.out.oe.lt _ h.symm).1; have := HI.out.gB; have := HI.out.eg; omega)
        have HNX := Lib.hid (show w.heap.size + 1 ≠ g from fun h => by have := HI.out.eg; omega)
        go_wp2
        have hdr : Below wr.heap.size wr wr.drew := (Qt.drewN wr 1).below _
        have hD0 : Below w.heap.size w wr.drew := HI.out.bel.trans (hdr.mono HI.out.bel.size)
        have hnb : some (w.heap.size + 1) ≠ ev.ownBlock := HNB.out
        refine wp_region_front 7 10 (fun V => V.heap[g]? = some (.cells #[.int .i64 c.num, .int .i64 c.kind, .int .i64 c.by', .int .i64 c.dl, .int .i64 c.to', .int .i64 c.want, .int .u64 c.price, .int .u64 c.reserve, .int .u64 c.step, .int .i64 c.of', ev, wv] 75) ∧ V.heap[w.heap.size + 1]? = some (.cells #[.int .i64 xa, .int .i64 xi, .int .u64 xc, .int .u64 xp, .slice xw xs.length xk] 33)) (by kernel_rfl) (by kernel_rfl) ⟨row_kept HI.out.rg hdr, row_kept HRX.out hdr⟩ ?_
        simp only [List.take_succ_cons, List.take_zero, List.drop_succ_cons, List.drop_zero]
        iterate 7
          apply wpPure_cons
          · rfl
          · intro Wx hw
            have k10 : Wx.cell? ⟨g, 10, none⟩ = some ev := by rw [cell_of_row _ _ _ _ _ _ hw.1]; rfl
            obtain ⟨u0, u1, u2, u3, u4⟩ := cells5 hw.2
            go_simp
            exact ⟨rfl, rfl⟩
          try simp only [Act.put, List.setIfInBounds_toArray, List.set_cons_zero, List.set_cons_succ]
        refine wpPure_nil (wpLoud_cons (by rfl) ?_)
        go_simp
        show Calls _ _ _ _ _
        refine (HK39.out _ hD0).mono ?_
        rintro e1' w6 ⟨⟨ya, yi, yc, yp, yw, yk, ys⟩, rfl, hyd, hnew, hb6⟩
        have hb0 := hdr.trans hb6
        have hI6 := HI.out.kept hb0
        have r6 := row_kept HRX.out hb0
        refine ⟨_, rfl, ⟨hI6.rg, r6⟩, wpLoud_cons (by rfl) ?_⟩
        try simp only [Act.put, List.setIfInBounds_toArray, List.set_cons_zero, List.set_cons_succ]
        go_simp
        refine ⟨⟨alloc_old hI6.rg, alloc_old r6⟩, wpLoud_cons (by rfl) ?_⟩
        try simp only [Act.put, List.setIfInBounds_toArray, List.set_cons_zero, List.set_cons_succ]
        refine loud_append _ _ 23 (by rfl) B 33 (.agg #[.int .i64 0, .int .i64 0, .int .u64 0, .int .u64 0, .slice none 0 0]) 5 56 Try.underlying23 infoE (by rfl) (by decide) ev _ _ (by rfl) (hI6.oe.alloc _) ⟨w6.heap.size, 0, none⟩ 1 1 (eFlat [⟨ya, yi, yc, yp, yw, yk, ys⟩]) (by rfl) (by rfl) (sl_new _ _ _ _) (oneCell_eFlat _) LB1.out LB2.out (Nat.le_trans hI6.sz (by simp)) ?_
        intro v2 w7 ho7 hg7
        obtain ⟨ad2, cp2, rfl, _⟩ := owns_slice ho7
        have g7 : w7.heap[g]? = some (.cells #[.int .i64 c.num, .int .i64 c.kind, .int .i64 c.by', .int .i64 c.dl, .int .i64 c.to', .int .i64 c.want, .int .u64 c.price, .int .u64 c.reserve, .int .u64 c.step, .int .i64 c.of', ev, wv] 75) := row_past (alloc_old hI6.rg) hg7 HNG.out
        refine ⟨⟨g7, row_past (alloc_old r6) hg7 hnb⟩, wpLoud_nil ?_⟩
        try simp only [Act.put, List.setIfInBounds_toArray, List.set_cons_zero, List.set_cons_succ]
        go_wp2_with ((with_reducible refine at_store_op ?_); refine wpList_store_lit 23 g 10 #[.int .i64 c.num, .int .i64 c.kind, .int .i64 c.by', .int .i64 c.dl, .int .i64 c.to', .int .i64 c.want, .int .u64 c.price, .int .u64 c.reserve, .int .u64 c.step, .int .i64 c.of', .slice ad2 (ls.length + 1) cp2, wv] (.slice ad2 (ls.length + 1) cp2) g7 szEs (Nat.le_of_ble_eq_true rfl) rfl rfl ?_ ?_ ?_; exact rfl; exact rfl)
        intro w8 hp8
        all_goals
          have HF := Lib.hid (HI.out.push hb0 hnew hg7 ho7 hp8)
          have HYD := Lib.hid hyd
          clear hb0 hnew hg7 ho7 hp8 hyd hI6 hb6 hdr hD0 hnb r6 g7
          obtain ⟨ga, gcp, rfl, _⟩ := owns_slice HF.out.og
          have n0 : w8.cell? ⟨g, 0, none⟩ = some (.int .i64 c.num) := by rw [cell_of_row _ _ _ _ _ _ HF.out.rg]; rfl
          have n1 : w8.cell? ⟨g, 1, none⟩ = some (.int .i64 c.kind) := by rw [cell_of_row _ _ _ _ _ _ HF.out.rg]; rfl
          have n2 : w8.cell? ⟨g, 2, none⟩ = some (.int .i64 c.by') := by rw [cell_of_row _ _ _ _ _ _ HF.out.rg]; rfl
          have n3 : w8.cell? ⟨g, 3, none⟩ = some (.int .i64 c.dl) := by rw [cell_of_row _ _ _ _ _ _ HF.out.rg]; rfl
          have n4 : w8.cell? ⟨g, 4, none⟩ = some (.int .i64 c.to') := by rw [cell_of_row _ _ _ _ _ _ HF.out.rg]; rfl
          have n5 : w8.cell? ⟨g, 5, none⟩ = some (.int .i64 c.want) := by rw [cell_of_row _ _ _ _ _ _ HF.out.rg]; rfl
          have n6 : w8.cell? ⟨g, 6, none⟩ = some (.int .u64 c.price) := by rw [cell_of_row _ _ _ _ _ _ HF.out.rg]; rfl
          have n7 : w8.cell? ⟨g, 7, none⟩ = some (.int .u64 c.reserve) := by rw [cell_of_row _ _ _ _ _ _ HF.out.rg]; rfl
          have n8 : w8.cell? ⟨g, 8, none⟩ = some (.int .u64 c.step) := by rw [cell_of_row _ _ _ _ _ _ HF.out.rg]; rfl
          have n9 : w8.cell? ⟨g, 9, none⟩ = some (.int .i64 c.of') := by rw [cell_of_row _ _ _ _ _ _ HF.out.rg]; rfl
          have n10 : w8.cell? ⟨g, 10, none⟩ = some (.slice ad2 (ls.length + 1) cp2) := by rw [cell_of_row _ _ _ _ _ _ HF.out.rg]; rfl
          go_wp2_with ((with_reducible refine at_store_op ?_); refine wpList_store_lit 25 (w.heap.size + 1 + 1) 0 #[.int .i64 c.num, .int .i64 c.kind, .int .i64 c.by', .int .i64 c.dl, .int .i64 c.to', .int .i64 c.want, .int .u64 c.price, .int .u64 c.reserve, .int .u64 c.step, .int .i64 c.of', .slice ad2 (ls.length + 1) cp2] (.agg #[.int .i64 c.num, .int .i64 c.kind, .int .i64 c.by', .int .i64 c.dl, .int .i64 c.to', .int .i64 c.want, .int .u64 c.price, .int .u64 c.reserve, .int .u64 c.step, .int .i64 c.of', .slice ad2 (ls.length + 1) cp2]) HF.out.rz szC (Nat.le_of_ble_eq_true rfl) rfl rfl ?_ ?_ ?_; exact rfl; exact rfl; intro w9 hp9)
          obtain ⟨hB9, hO9, hN9, hG9⟩ := HF.out.done hp9
          have hjd : gsK c.kind (c.es.map Ent.d) j = joinG c.kind (c.es.map Ent.d) := by rw [HJN.out]; have h := gsK_end c.kind (c.es.map Ent.d); rw [List.length_map] at h; exact h
          have hkd : keptN c.kind c.es.length j = stays c.kind (c.es.map Ent.d) := by rw [HJN.out]; have h := keptN_end c.kind (c.es.map Ent.d); rw [List.length_map] at h; exact h
          have hmx : (ls ++ [(⟨ya, yi, yc, yp, yw, yk, ys⟩ : Ent)]).length ≤ 2513169434843 := by
            have h := HLL.out
            rw [List.length_append, h]
            show keptN c.kind c.es.length j + 1 ≤ _
            unfold keptN
            rw [if_neg (by have := HK3.out; omega)]; have := HN16.out; omega
          exact bodyPost_ret (results_row_tmp3 Try.results10 _ _ (w.heap.size + 1 + 1) 25 _ _ _ rfl hp9.at' Try.underlying25 rfl szC) rfl
            ⟨⟨c.num, c.kind, c.by', c.dl, c.to', c.want, c.price, c.reserve, c.step, c.of', ad2, cp2, ls ++ [⟨ya, yi, yc, yp, yw, yk, ys⟩]⟩, ga, gcp, gsK c.kind (c.es.map Ent.d) j, by
              show _ = Ending.returned (.tuple #[_, _, _, .int .i64 (joinV c.kind c.by' c.reserve c.step (c.es.map Ent.d) (xa, xi, xc, xp, xs))])
              rw [HT.out]
              unfold Con.agg
              simp only [List.length_append, List.length_cons, List.length_nil, Nat.zero_add]
              rfl, hB9, ⟨by simpa only [List.length_append, List.length_cons, List.length_nil, Nat.zero_add] using hO9, hN9, hmx⟩, hG9, by
              show _ = if joinV c.kind c.by' c.reserve c.step (c.es.map Ent.d) (xa, xi, xc, xp, xs) = 0 then _ else _
              rw [if_pos HT.out, hjd], by
              show _ = if joinV c.kind c.by' c.reserve c.step (c.es.map Ent.d) (xa, xi, xc, xp, xs) = 0 then _ else _
              rw [if_pos HT.out]
              show (_, _, (ls ++ [_]).map Ent.d) = (_, _, _ ++ [_])
              rw [List.map_append, HLD.out, hkd, List.map_cons, List.map_nil, HYD.out]⟩
  have c3 : (c.kind == 3) = false := by simpa using hk3
  have HK2 := Lib.hid (show c.kind = 2 from HK.out.resolve_right hk3)
  have HJ4 := Lib.hid (HJ2.out.trans ((if_neg (fun hh => hk3 hh.1)).trans (if_neg (fun hh => hk3 hh.1))))
  rw [c3]
  clear hk3 c3
  have HT := Lib.hid (show joinV c.kind c.by' c.reserve c.step (c.es.map Ent.d) (xa, xi, xc, xp, xs) = 0 from HJ4.out)
  obtain ⟨wv, hwv⟩ : ∃ x, x = winsV c.kind gc := ⟨_, rfl⟩
  obtain ⟨ob, oo, hea, _⟩ := HC.out.ent 0 (by omega)
  have HEA := Lib.hid hea
  have HRG := Lib.hid (show w3.heap[g]? = some (.cells #[.int .i64 c.num, .int .i64 c.kind, .int .i64 c.by', .int .i64 c.dl, .int .i64 c.to', .int .i64 c.want, .int .u64 c.price, .int .u64 c.reserve, .int .u64 c.step, .int .i64 c.of', .slice (some ⟨ob, oo, none⟩) c.es.length c.ec, wv] 75) by have h := HH3.out.row; unfold Con.hall at h; rw [← hwv, hea] at h; exact h)
  have z10 : w3.cell? ⟨g, 10, none⟩ = some (.slice (some ⟨ob, oo, none⟩) c.es.length c.ec) := by rw [cell_of_row _ _ _ _ _ _ HRG.out]; rfl
  have HFE := Lib.hid (show ∀ V, Below w.heap.size w V → ∀ j (hj : j < c.es.length), V.cell? ⟨ob, oo + j * 5, none⟩ = some (.int .i64 c.es[j].acc) ∧ V.cell? ⟨ob, oo + j * 5 + 1, none⟩ = some (.int .i64 c.es[j].item) ∧ V.cell? ⟨ob, oo + j * 5 + 2, none⟩ = some (.int .u64 c.es[j].coins) ∧
    V.cell? ⟨ob, oo + j * 5 + 3, none⟩ = some (.int .u64 c.es[j].price) ∧ V.cell? ⟨ob, oo + j * 5 + 4, none⟩ = some (.slice c.es[j].wa c.es[j].ws.length c.es[j].wc) from fun V h j hj => by
  obtain ⟨_, _, he, f⟩ := (HC.out.kept h).ent j hj
  rw [HEA.out] at he
  cases he
  exact f)
  clear hwv hea
  go_wp2_with ((with_reducible refine at_store_op ?_); refine wpList_store_lit 23 g 10 #[.int .i64 c.num, .int .i64 c.kind, .int .i64 c.by', .int .i64 c.dl, .int .i64 c.to', .int .i64 c.want, .int .u64 c.price, .int .u64 c.reserve, .int .u64 c.step, .int .i64 c.of', .slice none 0 0, wv] (.slice none 0 0) HRG.out szEs (Nat.le_of_ble_eq_true rfl) rfl rfl ?_ ?_ ?_; exact rfl; exact rfl; intro w5 hp5)
  obtain ⟨B, hBdef⟩ : ∃ B, B = w3.heap.size := ⟨_, rfl⟩
  have HI0 := Lib.hid (show JI w g B (fun v => #[.int .i64 c.num, .int .i64 c.kind, .int .i64 c.by', .int .i64 c.dl, .int .i64 c.to', .int .i64 c.want, .int .u64 c.price, .int .u64 c.reserve, .int .u64 c.step, .int .i64 c.of', v, wv]) 75 #[.int .i64 c.num, .int .i64 c.kind, .int .i64 c.by', .int .i64 c.dl, .int .i64 c.to', .int .i64 c.want, .int .u64 c.price, .int .u64 c.reserve, .int .u64 c.step, .int .i64 c.of', .slice c.ea c.es.length c.ec] #[.int .i64 xa, .int .i64 xi, .int .u64 xc, .int .u64 xp, .slice xw xs.length xk] #[.int .i64 0, .int .i64 0, .int .i64 0, .int .i64 0, .int .i64 0, .int .i64 0, .int .u64 0, .int .u64 0, .int .u64 0, .int .i64 0, .slice none 0 0] w5 (.slice none 0 0) (.slice none 0 0) [] (gsK c.kind (c.es.map Ent.d) 0) by
  rw [gsK_lt (by rw [List.length_map]; omega), hBdef]
  exact ⟨hp5.below HB3.out HB3.out.size (by have := HG.out; omega), hp5.at', hp5.row Q0.out (by have := HG.out; omega), hp5.row Q1.out (by have := HG.out; omega), hp5.row Q2.out (by have := HG.out; omega), World.ownsRow_nil _ _ _ _, (fun x hx => by cases hx), World.ownsRow_nil _ _ _ _, lt_row HRG.out, HG.out, by rw [hp5.size]; exact Nat.le_refl _⟩)
  clear hp5 hBdef z10 HRG HB3 HH3 Q0 Q1 Q2
  go_loopw [12, 13, 14, 98] (fun v12 x13 x14 i wr => ∃ (j : Nat) (gv ev : Value) (ls : List Ent), gv = v12 ∧ j ≤ c.es.length ∧ i = .int .i64 j ∧ ls.length = keptN c.kind c.es.length j ∧ ls.map Ent.d = (c.es.map Ent.d).take (keptN c.kind c.es.length j) ∧ JI w g B (fun v => #[.int .i64 c.num, .int .i64 c.kind, .int .i64 c.by', .int .i64 c.dl, .int .i64 c.to', .int .i64 c.want, .int .u64 c.price, .int .u64 c.reserve, .int .u64 c.step, .int .i64 c.of', v, wv]) 75 #[.int .i64 c.num, .int .i64 c.kind, .int .i64 c.by', .int .i64 c.dl, .int .i64 c.to', .int .i64 c.want, .int .u64 c.price, .int .u64 c.reserve, .int .u64 c.step, .int .i64 c.of', .slice c.ea c.es.length c.ec] #[.int .i64 xa, .int .i64 xi, .int .u64 xc, .int .u64 xp, .slice xw xs.length xk] #[.int .i64 0, .int .i64 0, .int .i64 0, .int .i64 0, .int .i64 0, .int .i64 0, .int .u64 0, .int .u64 0, .int .u64 0, .int .i64 0, .slice none 0 0] wr ev gv ls (gsK c.kind (c.es.map Ent.d) j)) (fun _ _ _ i _ => c.es.length - (intOf i).toNat)
  case atStart => exact ⟨0, _, _, [], rfl, by omega, rfl, by rw [keptN_lt (by omega)]; rfl, by rw [keptN_lt (by omega)]; rfl, HI0.out⟩
  case round =>
    clear HI0
    obtain ⟨j, gv, ev, ls, hgv, hj, rfl, hll, hld, hi⟩ := hrel
    subst hgv
    have HI := Lib.hid hi
    have HLL := Lib.hid hll
    have HLD := Lib.hid hld
    have hls : ls.length ≤ 2513169434843 := by have h : keptN c.kind c.es.length j ≤ j := (by unfold keptN; split <;> omega); omega
    have LB1 := Lib.hid (show ls.length + 1 ≤ maxLen by unfold maxLen; omega)
    have LB2 := Lib.hid (show (ls.length + 1) * 56 ≤ 140737488355328 by omega)
    have HNG := Lib.hid (show some g ≠ ev.ownBlock from fun h => by have := (hi.oe.lt _ h.symm).1; have := hi.gB; omega)
    clear hi hll hld
    by_cases hlt : j < c.es.length
    · have t0 : decide ((j : Int) < (c.es.length : Int)) = true := by simp; omega
      have i1 : (j : Int) < (c.es.length : Int) := by omega
      obtain ⟨f0, f1, f2, f3, f4⟩ := HFE.out _ HI.out.bel j hlt
      have HXD := Lib.hid (show (c.es.map Ent.d).take (j + 1) = (c.es.map Ent.d).take j ++ [c.es[j].d] by rw [List.take_succ_eq_append_getElem (by simpa using hlt)]; simp)
      have HK39 := Lib.hid (fun V (h : Below w.heap.size w V) => copied_any c.es[j] V ((HC.out.ents _ (List.getElem_mem hlt)).kept h))
      have HK38 := Lib.hid (fun V (h : Below wr.heap.size wr V) => back_any B gv _ _ c.es[j] V (Nat.le_trans HI.out.sz h.size) (by rw [gsK_lt (by rw [List.length_map]; exact hlt)]; exact Nat.zero_le _) (owns_below (B := 0) HI.out.og h))
      have HBK := Lib.hid (Ent.back_d c.es j hlt)
      generalize c.es[j] = x at *
      obtain ⟨qa, qi, qc, qp, qw, qk, qs⟩ := x
      unfold Ent.agg at HK39 HK38
      simp only at HK39 HK38 f0 f1 f2 f3 f4
      obtain ⟨V0, hV0⟩ : ∃ W, W = wr.alloc (.cells #[.int .i64 qa, .int .i64 qi, .int .u64 qc, .int .u64 qp, .slice qw qs.length qk] 33) := ⟨_, rfl⟩
      have HV0 := Lib.hid hV0
      have hbv : Below wr.heap.size wr V0 := by rw [hV0]; exact (Below.refl _ _).alloc (Nat.le_refl _) _
      have HIV := Lib.hid (HI.out.kept hbv)
      have HBV := Lib.hid hbv
      have HRX := Lib.hid (show V0.heap[wr.heap.size]? = some (.cells #[.int .i64 qa, .int .i64 qi, .int .u64 qc, .int .u64 qp, .slice qw qs.length qk] 33) by rw [hV0]; exact alloc_at rfl)
      have HNB := Lib.hid (show some wr.heap.size ≠ ev.ownBlock from fun h => by have := (HI.out.oe.lt _ h.symm).2; omega)
      have HNX := Lib.hid (show wr.heap.size ≠ g from fun h => by have := HI.out.sz; have := HI.out.gB; omega)
      have HGJ := Lib.hid (gsK_lt (k := c.kind) (l := c.es.map Ent.d) (j := j) (by rw [List.length_map]; exact hlt))
      have HKJ := Lib.hid (keptN_lt (k := c.kind) hlt)
      clear hV0 hbv
      by_cases hj0 : j = 0
      · have d1 : decide ((j : Int) > 0) = false := by simp; omega
        have d1' : ¬ 0 < j := by omega
        have HJ0 := Lib.hid hj0
        clear hj0
        go_wp2
        rw [← HV0.out]
        have hdr : Below V0.heap.size V0 V0.drew := (Qt.drewN V0 1).below _
        have hD0 : Below w.heap.size w V0.drew := HIV.out.bel.trans (hdr.mono HIV.out.bel.size)
        have hnb : some (wr.heap.size) ≠ ev.ownBlock := HNB.out
        refine wp_region_front 7 10 (fun V => V.heap[g]? = some (.cells #[.int .i64 c.num, .int .i64 c.kind, .int .i64 c.by', .int .i64 c.dl, .int .i64 c.to', .int .i64 c.want, .int .u64 c.price, .int .u64 c.reserve, .int .u64 c.step, .int .i64 c.of', ev, wv] 75) ∧ V.heap[wr.heap.size]? = some (.cells #[.int .i64 qa, .int .i64 qi, .int .u64 qc, .int .u64 qp, .slice qw qs.length qk] 33)) (by kernel_rfl) (by kernel_rfl) ⟨row_kept HIV.out.rg hdr, row_kept HRX.out hdr⟩ ?_
        simp only [List.take_succ_cons, List.take_zero, List.drop_succ_cons, List.drop_zero]
        iterate 7
          apply wpPure_cons
          · rfl
          · intro Wx hw
            have k10 : Wx.cell? ⟨g, 10, none⟩ = some ev := by rw [cell_of_row _ _ _ _ _ _ hw.1]; rfl
            obtain ⟨u0, u1, u2, u3, u4⟩ := cells5 hw.2
            go_simp
            exact ⟨rfl, rfl⟩
          try simp only [Act.put, List.setIfInBounds_toArray, List.set_cons_zero, List.set_cons_succ]
        refine wpPure_nil (wpLoud_cons (by rfl) ?_)
        go_simp
        show Calls _ _ _ _ _
        refine (HK39.out _ hD0).mono ?_
        rintro e1' w6 ⟨⟨ya, yi, yc, yp, yw, yk, ys⟩, rfl, hyd, hnew, hb6⟩
        have hb0 := hdr.trans hb6
        have hI6 := HIV.out.kept hb0
        have r6 := row_kept HRX.out hb0
        refine ⟨_, rfl, ⟨hI6.rg, r6⟩, wpLoud_cons (by rfl) ?_⟩
        try simp only [Act.put, List.setIfInBounds_toArray, List.set_cons_zero, List.set_cons_succ]
        go_simp
        refine ⟨⟨alloc_old hI6.rg, alloc_old r6⟩, wpLoud_cons (by rfl) ?_⟩
        try simp only [Act.put, List.setIfInBounds_toArray, List.set_cons_zero, List.set_cons_succ]
        refine loud_append _ _ 23 (by rfl) B 33 (.agg #[.int .i64 0, .int .i64 0, .int .u64 0, .int .u64 0, .slice none 0 0]) 5 56 Try.underlying23 infoE (by rfl) (by decide) ev _ _ (by rfl) (hI6.oe.alloc _) ⟨w6.heap.size, 0, none⟩ 1 1 (eFlat [⟨ya, yi, yc, yp, yw, yk, ys⟩]) (by rfl) (by rfl) (sl_new _ _ _ _) (oneCell_eFlat _) LB1.out LB2.out (Nat.le_trans hI6.sz (by simp)) ?_
        intro v2 w7 ho7 hg7
        obtain ⟨ad2, cp2, rfl, _⟩ := owns_slice ho7
        have g7 : w7.heap[g]? = some (.cells #[.int .i64 c.num, .int .i64 c.kind, .int .i64 c.by', .int .i64 c.dl, .int .i64 c.to', .int .i64 c.want, .int .u64 c.price, .int .u64 c.reserve, .int .u64 c.step, .int .i64 c.of', ev, wv] 75) := row_past (alloc_old hI6.rg) hg7 HNG.out
        refine ⟨⟨g7, row_past (alloc_old r6) hg7 hnb⟩, wpLoud_nil ?_⟩
        try simp only [Act.put, List.setIfInBounds_toArray, List.set_cons_zero, List.set_cons_succ]
        go_wp2_with ((with_reducible refine at_store_op ?_); refine wpList_store_lit 23 g 10 #[.int .i64 c.num, .int .i64 c.kind, .int .i64 c.by', .int .i64 c.dl, .int .i64 c.to', .int .i64 c.want, .int .u64 c.price, .int .u64 c.reserve, .int .u64 c.step, .int .i64 c.of', .slice ad2 (ls.length + 1) cp2, wv] (.slice ad2 (ls.length + 1) cp2) g7 szEs (Nat.le_of_ble_eq_true rfl) rfl rfl ?_ ?_ ?_; exact rfl; exact rfl)
        intro w8 hp8
        all_goals
          have HF := Lib.hid (HIV.out.push hb0 hnew hg7 ho7 hp8)
          have HYD := Lib.hid hyd
          clear hb0 hnew hg7 ho7 hp8 hyd hI6 hb6 hdr hD0 hnb r6 g7
          go_wp2
          go_roundw
          case rel =>
            have hk1 : keptN c.kind c.es.length (j + 1) = j + 1 := if_neg (by have := HJ0.out; omega)
            have hg1 : gsK c.kind (c.es.map Ent.d) (j + 1) = gsK c.kind (c.es.map Ent.d) j := by rw [HGJ.out]; exact if_neg (by rw [List.length_map]; have := HJ0.out; omega)
            refine ⟨j + 1, _, _, ls ++ [⟨ya, yi, yc, yp, yw, yk, ys⟩], rfl, by omega, by go_num, ?_, ?_, by rw [hg1]; exact HF.out⟩
            · rw [hk1, List.length_append, HLL.out, HKJ.out]; rfl
            · rw [hk1, HXD.out, List.map_append, HLD.out, HKJ.out, List.map_cons, List.map_nil, HYD.out]
          case measure => simp [intOf]; omega
      · have d1 : decide ((j : Int) > 0) = true := by simp; omega
        have d1' : 0 < j := by omega
        by_cases hjl : j = c.es.length - 1
        · have d2 : ((j : Int) == (c.es.length : Int) - 1) = true := by simp; omega
          have HBK2 := Lib.hid (show gsK c.kind (c.es.map Ent.d) (j + 1) = gsK c.kind (c.es.map Ent.d) j ++ Ent.back ⟨qa, qi, qc, qp, qw, qk, qs⟩ by
            rw [HGJ.out, List.nil_append, ← HBK.out]
            unfold gsK
            rw [if_pos (by have := HK2.out; rw [List.length_map]; omega), List.length_map, ← hjl])
          have HJ1 := Lib.hid (And.intro hj0 hjl)
          clear hj0 hjl
          go_wp2_with fail
          rw [← HV0.out]
          refine (HK38.out _ HBV.out).mono ?_
          rintro e1' w6 ⟨gv2, rfl, hgr⟩
          have HF := Lib.hid (HIV.out.back hgr)
          clear hgr
          go_wp2
          go_roundw
          case rel =>
            have hk1 : keptN c.kind c.es.length (j + 1) = j := by have h1 := HJ1.out; have h2 := HK2.out; unfold keptN; rw [if_pos (by omega)]; omega
            exact ⟨j + 1, _, _, ls, rfl, by omega, by go_num, by rw [hk1, HLL.out, HKJ.out], by rw [hk1, HLD.out, HKJ.out], by rw [HBK2.out]; exact HF.out⟩
          case measure => simp [intOf]; omega
        · have d2 : ((j : Int) == (c.es.length : Int) - 1) = false := by simp; omega
          go_wp2
          rw [← HV0.out]
          have hdr : Below V0.heap.size V0 V0.drew := (Qt.drewN V0 1).below _
          have hD0 : Below w.heap.size w V0.drew := HIV.out.bel.trans (hdr.mono HIV.out.bel.size)
          have hnb : some (wr.heap.size) ≠ ev.ownBlock := HNB.out
          refine wp_region_front 7 10 (fun V => V.heap[g]? = some (.cells #[.int .i64 c.num, .int .i64 c.kind, .int .i64 c.by', .int .i64 c.dl, .int .i64 c.to', .int .i64 c.want, .int .u64 c.price, .int .u64 c.reserve, .int .u64 c.step, .int .i64 c.of', ev, wv] 75) ∧ V.heap[wr.heap.size]? = some (.cells #[.int .i64 qa, .int .i64 qi, .int .u64 qc, .int .u64 qp, .slice qw qs.length qk] 33)) (by kernel_rfl) (by kernel_rfl) ⟨row_kept HIV.out.rg hdr, row_kept HRX.out hdr⟩ ?_
          simp only [List.take_succ_cons, List.take_zero, List.drop_succ_cons, List.drop_zero]
          iterate 7
            apply wpPure_cons
            · rfl
            · intro Wx hw
              have k10 : Wx.cell? ⟨g, 10, none⟩ = some ev := by rw [cell_of_row _ _ _ _ _ _ hw.1]; rfl
              obtain ⟨u0, u1, u2, u3, u4⟩ := cells5 hw.2
              go_simp
              exact ⟨rfl, rfl⟩
            try simp only [Act.put, List.setIfInBounds_toArray, List.set_cons_zero, List.set_cons_succ]
          refine wpPure_nil (wpLoud_cons (by rfl) ?_)
          go_simp
          show Calls _ _ _ _ _
          refine (HK39.out _ hD0).mono ?_
          rintro e1' w6 ⟨⟨ya, yi, yc, yp, yw, yk, ys⟩, rfl, hyd, hnew, hb6⟩
          have hb0 := hdr.trans hb6
          have hI6 := HIV.out.kept hb0
          have r6 := row_kept HRX.out hb0
          refine ⟨_, rfl, ⟨hI6.rg, r6⟩, wpLoud_cons (by rfl) ?_⟩
          try simp only [Act.put, List.setIfInBounds_toArray, List.set_cons_zero, List.set_cons_succ]
          go_simp
          refine ⟨⟨alloc_old hI6.rg, alloc_old r6⟩, wpLoud_cons (by rfl) ?_⟩
          try simp only [Act.put, List.setIfInBounds_toArray, List.set_cons_zero, List.set_cons_succ]
          refine loud_append _ _ 23 (by rfl) B 33 (.agg #[.int .i64 0, .int .i64 0, .int .u64 0, .int .u64 0, .slice none 0 0]) 5 56 Try.underlying23 infoE (by rfl) (by decide) ev _ _ (by rfl) (hI6.oe.alloc _) ⟨w6.heap.size, 0, none⟩ 1 1 (eFlat [⟨ya, yi, yc, yp, yw, yk, ys⟩]) (by rfl) (by rfl) (sl_new _ _ _ _) (oneCell_eFlat _) LB1.out LB2.out (Nat.le_trans hI6.sz (by simp)) ?_
          intro v2 w7 ho7 hg7
          obtain ⟨ad2, cp2, rfl, _⟩ := owns_slice ho7
          have g7 : w7.heap[g]? = some (.cells #[.int .i64 c.num, .int .i64 c.kind, .int .i64 c.by', .int .i64 c.dl, .int .i64 c.to', .int .i64 c.want, .int .u64 c.price, .int .u64 c.reserve, .int .u64 c.step, .int .i64 c.of', ev, wv] 75) := row_past (alloc_old hI6.rg) hg7 HNG.out
          refine ⟨⟨g7, row_past (alloc_old r6) hg7 hnb⟩, wpLoud_nil ?_⟩
          try simp only [Act.put, List.setIfInBounds_toArray, List.set_cons_zero, List.set_cons_succ]
          go_wp2_with ((with_reducible refine at_store_op ?_); refine wpList_store_lit 23 g 10 #[.int .i64 c.num, .int .i64 c.kind, .int .i64 c.by', .int .i64 c.dl, .int .i64 c.to', .int .i64 c.want, .int .u64 c.price, .int .u64 c.reserve, .int .u64 c.step, .int .i64 c.of', .slice ad2 (ls.length + 1) cp2, wv] (.slice ad2 (ls.length + 1) cp2) g7 szEs (Nat.le_of_ble_eq_true rfl) rfl rfl ?_ ?_ ?_; exact rfl; exact rfl)
          intro w8 hp8
          all_goals
            have HF := Lib.hid (HIV.out.push hb0 hnew hg7 ho7 hp8)
            have HYD := Lib.hid hyd
            clear hb0 hnew hg7 ho7 hp8 hyd hI6 hb6 hdr hD0 hnb r6 g7
            go_wp2
            go_roundw
            case rel =>
              have hk1 : keptN c.kind c.es.length (j + 1) = j + 1 := if_neg (by omega)
              have hg1 : gsK c.kind (c.es.map Ent.d) (j + 1) = gsK c.kind (c.es.map Ent.d) j := by rw [HGJ.out]; exact if_neg (by rw [List.length_map]; omega)
              refine ⟨j + 1, _, _, ls ++ [⟨ya, yi, yc, yp, yw, yk, ys⟩], rfl, by omega, by go_num, ?_, ?_, by rw [hg1]; exact HF.out⟩
              · rw [hk1, List.length_append, HLL.out, HKJ.out]; rfl
              · rw [hk1, HXD.out, List.map_append, HLD.out, HKJ.out, List.map_cons, List.map_nil, HYD.out]
            case measure => simp [intOf]; omega
    · have t0 : decide ((j : Int) < (c.es.length : Int)) = false := by simp; omega
      have HJN := Lib.hid (show j = c.es.length by omega)
      have HK39 := Lib.hid (fun V (h : Below w.heap.size w V) => copied_any ⟨xa, xi, xc, xp, xw, xk, xs⟩ V (HE.out.kept h))
      unfold Ent.agg at HK39
      simp only at HK39
      have HRX := Lib.hid HI.out.re
      have HNB := Lib.hid (show some (w.heap.size + 1) ≠ ev.ownBlock from fun h => by have := (HI.out.oe.lt _ h.symm).1; have := HI.out.gB; have := HI.out.eg; omega)
      have HNX := Lib.hid (show w.heap.size + 1 ≠ g from fun h => by have := HI.out.eg; omega)
      go_wp2
      have hdr : Below wr.heap.size wr wr.drew := (Qt.drewN wr 1).below _
      have hD0 : Below w.heap.size w wr.drew := HI.out.bel.trans (hdr.mono HI.out.bel.size)
      have hnb : some (w.heap.size + 1) ≠ ev.ownBlock := HNB.out
      refine wp_region_front 7 10 (fun V => V.heap[g]? = some (.cells #[.int .i64 c.num, .int .i64 c.kind, .int .i64 c.by', .int .i64 c.dl, .int .i64 c.to', .int .i64 c.want, .int .u64 c.price, .int .u64 c.reserve, .int .u64 c.step, .int .i64 c.of', ev, wv] 75) ∧ V.heap[w.heap.size + 1]? = some (.cells #[.int .i64 xa, .int .i64 xi, .int .u64 xc, .int .u64 xp, .slice xw xs.length xk] 33)) (by kernel_rfl) (by kernel_rfl) ⟨row_kept HI.out.rg hdr, row_kept HRX.out hdr⟩ ?_
      simp only [List.take_succ_cons, List.take_zero, List.drop_succ_cons, List.drop_zero]
      iterate 7
        apply wpPure_cons
        · rfl
        · intro Wx hw
          have k10 : Wx.cell? ⟨g, 10, none⟩ = some ev := by rw [cell_of_row _ _ _ _ _ _ hw.1]; rfl
          obtain ⟨u0, u1, u2, u3, u4⟩ := cells5 hw.2
          go_simp
          exact ⟨rfl, rfl⟩
        try simp only [Act.put, List.setIfInBounds_toArray, List.set_cons_zero, List.set_cons_succ]
      refine wpPure_nil (wpLoud_cons (by rfl) ?_)
      go_simp
      show Calls _ _ _ _ _
      refine (HK39.out _ hD0).mono ?_
      rintro e1' w6 ⟨⟨ya, yi, yc, yp, yw, yk, ys⟩, rfl, hyd, hnew, hb6⟩
      have hb0 := hdr.trans hb6
      have hI6 := HI.out.kept hb0
      have r6 := row_kept HRX.out hb0
      refine ⟨_, rfl, ⟨hI6.rg, r6⟩, wpLoud_cons (by rfl) ?_⟩
      try simp only [Act.put, List.setIfInBounds_toArray, List.set_cons_zero, List.set_cons_succ]
      go_simp
      refine ⟨⟨alloc_old hI6.rg, alloc_old r6⟩, wpLoud_cons (by rfl) ?_⟩
      try simp only [Act.put, List.setIfInBounds_toArray, List.set_cons_zero, List.set_cons_succ]
      refine loud_append _ _ 23 (by rfl) B 33 (.agg #[.int .i64 0, .int .i64 0, .int .u64 0, .int .u64 0, .slice none 0 0]) 5 56 Try.underlying23 infoE (by rfl) (by decide) ev _ _ (by rfl) (hI6.oe.alloc _) ⟨w6.heap.size, 0, none⟩ 1 1 (eFlat [⟨ya, yi, yc, yp, yw, yk, ys⟩]) (by rfl) (by rfl) (sl_new _ _ _ _) (oneCell_eFlat _) LB1.out LB2.out (Nat.le_trans hI6.sz (by simp)) ?_
      intro v2 w7 ho7 hg7
      obtain ⟨ad2, cp2, rfl, _⟩ := owns_slice ho7
      have g7 : w7.heap[g]? = some (.cells #[.int .i64 c.num, .int .i64 c.kind, .int .i64 c.by', .int .i64 c.dl, .int .i64 c.to', .int .i64 c.want, .int .u64 c.price, .int .u64 c.reserve, .int .u64 c.step, .int .i64 c.of', ev, wv] 75) := row_past (alloc_old hI6.rg) hg7 HNG.out
      refine ⟨⟨g7, row_past (alloc_old r6) hg7 hnb⟩, wpLoud_nil ?_⟩
      try simp only [Act.put, List.setIfInBounds_toArray, List.set_cons_zero, List.set_cons_succ]
      go_wp2_with ((with_reducible refine at_store_op ?_); refine wpList_store_lit 23 g 10 #[.int .i64 c.num, .int .i64 c.kind, .int .i64 c.by', .int .i64 c.dl, .int .i64 c.to', .int .i64 c.want, .int .u64 c.price, .int .u64 c.reserve, .int .u64 c.step, .int .i64 c.of', .slice ad2 (ls.length + 1) cp2, wv] (.slice ad2 (ls.length + 1) cp2) g7 szEs (Nat.le_of_ble_eq_true rfl) rfl rfl ?_ ?_ ?_; exact rfl; exact rfl)
      intro w8 hp8
      all_goals
        have HF := Lib.hid (HI.out.push hb0 hnew hg7 ho7 hp8)
        have HYD := Lib.hid hyd
        clear hb0 hnew hg7 ho7 hp8 hyd hI6 hb6 hdr hD0 hnb r6 g7
        obtain ⟨ga, gcp, rfl, _⟩ := owns_slice HF.out.og
        have n0 : w8.cell? ⟨g, 0, none⟩ = some (.int .i64 c.num) := by rw [cell_of_row _ _ _ _ _ _ HF.out.rg]; rfl
        have n1 : w8.cell? ⟨g, 1, none⟩ = some (.int .i64 c.kind) := by rw [cell_of_row _ _ _ _ _ _ HF.out.rg]; rfl
        have n2 : w8.cell? ⟨g, 2, none⟩ = some (.int .i64 c.by') := by rw [cell_of_row _ _ _ _ _ _ HF.out.rg]; rfl
        have n3 : w8.cell? ⟨g, 3, none⟩ = some (.int .i64 c.dl) := by rw [cell_of_row _ _ _ _ _ _ HF.out.rg]; rfl
        have n4 : w8.cell? ⟨g, 4, none⟩ = some (.int .i64 c.to') := by rw [cell_of_row _ _ _ _ _ _ HF.out.rg]; rfl
        have n5 : w8.cell? ⟨g, 5, none⟩ = some (.int .i64 c.want) := by rw [cell_of_row _ _ _ _ _ _ HF.out.rg]; rfl
        have n6 : w8.cell? ⟨g, 6, none⟩ = some (.int .u64 c.price) := by rw [cell_of_row _ _ _ _ _ _ HF.out.rg]; rfl
        have n7 : w8.cell? ⟨g, 7, none⟩ = some (.int .u64 c.reserve) := by rw [cell_of_row _ _ _ _ _ _ HF.out.rg]; rfl
        have n8 : w8.cell? ⟨g, 8, none⟩ = some (.int .u64 c.step) := by rw [cell_of_row _ _ _ _ _ _ HF.out.rg]; rfl
        have n9 : w8.cell? ⟨g, 9, none⟩ = some (.int .i64 c.of') := by rw [cell_of_row _ _ _ _ _ _ HF.out.rg]; rfl
        have n10 : w8.cell? ⟨g, 10, none⟩ = some (.slice ad2 (ls.length + 1) cp2) := by rw [cell_of_row _ _ _ _ _ _ HF.out.rg]; rfl
        go_wp2_with ((with_reducible refine at_store_op ?_); refine wpList_store_lit 25 (w.heap.size + 1 + 1) 0 #[.int .i64 c.num, .int .i64 c.kind, .int .i64 c.by', .int .i64 c.dl, .int .i64 c.to', .int .i64 c.want, .int .u64 c.price, .int .u64 c.reserve, .int .u64 c.step, .int .i64 c.of', .slice ad2 (ls.length + 1) cp2] (.agg #[.int .i64 c.num, .int .i64 c.kind, .int .i64 c.by', .int .i64 c.dl, .int .i64 c.to', .int .i64 c.want, .int .u64 c.price, .int .u64 c.reserve, .int .u64 c.step, .int .i64 c.of', .slice ad2 (ls.length + 1) cp2]) HF.out.rz szC (Nat.le_of_ble_eq_true rfl) rfl rfl ?_ ?_ ?_; exact rfl; exact rfl; intro w9 hp9)
        obtain ⟨hB9, hO9, hN9, hG9⟩ := HF.out.done hp9
        have hjd : gsK c.kind (c.es.map Ent.d) j = joinG c.kind (c.es.map Ent.d) := by rw [HJN.out]; have h := gsK_end c.kind (c.es.map Ent.d); rw [List.length_map] at h; exact h
        have hkd : keptN c.kind c.es.length j = stays c.kind (c.es.map Ent.d) := by rw [HJN.out]; have h := keptN_end c.kind (c.es.map Ent.d); rw [List.length_map] at h; exact h
        have hmx : (ls ++ [(⟨ya, yi, yc, yp, yw, yk, ys⟩ : Ent)]).length ≤ 2513169434843 := by
          have h := HLL.out
          rw [List.length_append, h]
          show keptN c.kind c.es.length j + 1 ≤ _
          unfold keptN
          split <;> (have := HK2.out; have := HJN.out; omega)
        exact bodyPost_ret (results_row_tmp3 Try.results10 _ _ (w.heap.size + 1 + 1) 25 _ _ _ rfl hp9.at' Try.underlying25 rfl szC) rfl
          ⟨⟨c.num, c.kind, c.by', c.dl, c.to', c.want, c.price, c.reserve, c.step, c.of', ad2, cp2, ls ++ [⟨ya, yi, yc, yp, yw, yk, ys⟩]⟩, ga, gcp, gsK c.kind (c.es.map Ent.d) j, by
            show _ = Ending.returned (.tuple #[_, _, _, .int .i64 (joinV c.kind c.by' c.reserve c.step (c.es.map Ent.d) (xa, xi, xc, xp, xs))])
            rw [HT.out]
            unfold Con.agg
            simp only [List.length_append, List.length_cons, List.length_nil, Nat.zero_add]
            rfl, hB9, ⟨by simpa only [List.length_append, List.length_cons, List.length_nil, Nat.zero_add] using hO9, hN9, hmx⟩, hG9, by
            show _ = if joinV c.kind c.by' c.reserve c.step (c.es.map Ent.d) (xa, xi, xc, xp, xs) = 0 then _ else _
            rw [if_pos HT.out, hjd], by
            show _ = if joinV c.kind c.by' c.reserve c.step (c.es.map Ent.d) (xa, xi, xc, xp, xs) = 0 then _ else _
            rw [if_pos HT.out]
            show (_, _, (ls ++ [_]).map Ent.d) = (_, _, _ ++ [_])
            rw [List.map_append, HLD.out, hkd, List.map_cons, List.map_nil, HYD.out]⟩
end Go.Proofs.Ytpejcndfplbikaa
