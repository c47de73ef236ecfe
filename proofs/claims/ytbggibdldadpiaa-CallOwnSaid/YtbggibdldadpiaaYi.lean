/-
  Layer 19: Join again: the answered entries' wishes lie in blocks apart.
-/
import Derived.Test.YtbggibdldadpiaaYh
import Derived.Test.YtbggibdldadpiaaYa
namespace Go.Proofs.Ytbggibdldadpiaa
open Go.RowKit Go.K
set_option linter.unusedVariables false
set_option linter.unusedSimpArgs false
def Ent.w3 (x : Ent) : R3 := (x.wa, x.ws.length, x.wc)
/-- Wishes in blocks apart from each other. -/
def DisE (ls : List Ent) : Prop := ∀ i j (h : i < ls.length) (h' : j < ls.length), i ≠ j → ∀ b, (r3 ls[i].w3).ownBlock = some b → (r3 ls[j].w3).ownBlock ≠ some b
theorem DisE.nil : DisE [] := fun i j h => by simp at h
theorem DisE.push {ls : List Ent} {y : Ent} {n : Nat} (h : DisE ls) (h1 : ∀ x ∈ ls, ∀ b, (r3 x.w3).ownBlock = some b → b < n) (h2 : ∀ b, (r3 y.w3).ownBlock = some b → n ≤ b) : DisE (ls ++ [y]) := by
  intro i j hi hj hij b hb hb2
  rw [List.length_append, List.length_singleton] at hi hj
  by_cases ei : i < ls.length
  · rw [List.getElem_append_left ei] at hb
    by_cases ej : j < ls.length
    · rw [List.getElem_append_left ej] at hb2
      exact h i j ei ej hij b hb hb2
    · rw [List.getElem_append_right (by omega)] at hb2
      simp only [List.getElem_singleton] at hb2
      have := h1 _ (List.getElem_mem ei) b hb
      have := h2 b hb2
      omega
  · rw [List.getElem_append_right (by omega)] at hb
    simp only [List.getElem_singleton] at hb
    by_cases ej : j < ls.length
    · rw [List.getElem_append_left ej] at hb2
      have := h1 _ (List.getElem_mem ej) b hb2
      have := h2 b hb
      omega
    · omega
theorem oneCell_eFlat (l : List Ent) : ∀ u ∈ eFlat l, u.oneCell' = true := by
  intro u hu
  obtain ⟨g, _, hg⟩ := List.mem_flatMap.1 hu
  simp only [Ent.cells, List.mem_cons, List.not_mem_nil, or_false] at hg
  rcases hg with rfl | rfl | rfl | rfl | rfl <;> rfl
def JoinAns2 (w : World) (c : Con) (e : Ent) (r : Ending) (w' : World) : Prop :=
  ∃ d : Con, r = .returned (.tuple #[d.agg, .slice none 0 0, .bool false, .int .i64 (joinV c e)]) ∧ Below w.heap.size w w' ∧ NewC w.heap.size w' d ∧ (d.d = if joinV c e = 0 then joinD c e else conZ.d) ∧ DisE d.es
theorem joinB_no {w w' : World} {c : Con} {e : Ent} {r : Ending} (v : Int) (hv : joinV c e = v) (h0 : v ≠ 0) (hr : r = .returned (.tuple #[conZ.agg, .slice none 0 0, .bool false, .int .i64 v])) (hb : Below w.heap.size w w') : JoinAns2 w c e r w' :=
  ⟨conZ, by rw [hv]; exact hr, hb, conZ_new _ _, by rw [hv, if_neg h0], DisE.nil⟩
set_option maxRecDepth 100000 in
set_option maxHeartbeats 8000000 in
theorem join_dis (c : Con) (e : Ent) (w : World) (hc : ConOk w c) (he : EntOk w e) : Calls Try.prog 25 #[c.agg, e.agg] w (JoinAns2 w c e) := by
  have HC := Lib.hid hc
  have HE := Lib.hid he
  have hm : c.es.length ≤ 2513169434843 := hc.mx
  clear hc he
  obtain ⟨n, k, b, d, t, wn, p, r, s, o, ea, ec, es⟩ := c
  obtain ⟨xa, xi, xc, xp, xw, xk, xs⟩ := e
  have HK := Lib.hid (fun (V : World) => right_any ⟨xa, xi, xc, xp, xw, xk, xs⟩ V)
  unfold Con.agg Ent.agg at *
  simp only at HK hm ⊢
  go_enter Try.func25, Try.ntmps25
  go_upto_region 2 with fail
  refine wp_world (fun W => Below w.heap.size w W ∧ W.heap[w.heap.size]? = some (.cells #[.int .i64 n, .int .i64 k, .int .i64 b, .int .i64 d, .int .i64 t, .int .i64 wn, .int .u64 p, .int .u64 r, .int .u64 s, .int .i64 o, .slice ea es.length ec] 51) ∧ W.heap[w.heap.size + 1]? = some (.cells #[.int .i64 xa, .int .i64 xi, .int .u64 xc, .int .u64 xp, .slice xw xs.length xk] 53) ∧ W.heap[w.heap.size + 2]? = some (.cells #[.int .i64 0, .int .i64 0, .int .i64 0, .int .i64 0, .int .i64 0, .int .i64 0, .int .u64 0, .int .u64 0, .int .u64 0, .int .i64 0, .slice none 0 0] 51) ∧ W.heap[w.heap.size + 3]? = some (.cells #[.int .i64 0, .int .i64 0, .int .i64 0, .int .i64 0, .int .i64 0, .int .i64 0, .int .u64 0, .int .u64 0, .int .u64 0, .int .i64 0, .slice none 0 0] 51))
    ⟨((((Below.refl _ _).alloc (Nat.le_refl _) _).alloc (by simp) _).alloc (by simp; omega) _).alloc (by simp; omega) _, alloc_old (alloc_old (alloc_old (alloc_at rfl))), alloc_old (alloc_old (alloc_at (by simp))), alloc_old (alloc_at (by simp)), alloc_at (by simp)⟩ ?_
  rintro W ⟨hB, hR0, hR1, hR2, hR3⟩
  have HB := Lib.hid hB
  have R0 := Lib.hid hR0
  have R1 := Lib.hid hR1
  have R2 := Lib.hid hR2
  have R3 := Lib.hid hR3
  obtain ⟨p0, p1, p2, p3, p4, p5, p6, p7, p8, p9, p10⟩ := cells11 hR0
  obtain ⟨q0, q1, q2, q3, q4⟩ := cells5 hR1
  obtain ⟨z0, z1, z2, z3, z4, z5, z6, z7, z8, z9, z10⟩ := cells11 hR3
  clear hB hR0 hR1 hR2 hR3
  by_cases hk : k = 5 ∧ xs.length = 0 ∧ 0 ≤ xi
  case neg =>
    have HT := Lib.hid (show joinV ⟨n, k, b, d, t, wn, p, r, s, o, ea, ec, es⟩ ⟨xa, xi, xc, xp, xw, xk, xs⟩ = 200 by unfold joinV; rw [if_neg hk])
    clear HK
    by_cases k1 : k = 5
    · have c1 : (k != 5) = false := by simpa using k1
      by_cases k2 : xs.length = 0
      · have c2 : ((xs.length : Int) != 0) = false := by rw [bne_eq_false_iff_eq]; omega
        have c3 : decide (xi < 0) = true := decide_eq_true (by have : ¬ (0 ≤ xi) := fun h => hk ⟨k1, k2, h⟩; omega)
        clear hk k1 k2
        go_wp2_with (refine wpList_store_lit 51 (w.heap.size + 2) 0 #[.int .i64 0, .int .i64 0, .int .i64 0, .int .i64 0, .int .i64 0, .int .i64 0, .int .u64 0, .int .u64 0, .int .u64 0, .int .i64 0, .slice none 0 0] (.agg #[.int .i64 0, .int .i64 0, .int .i64 0, .int .i64 0, .int .i64 0, .int .i64 0, .int .u64 0, .int .u64 0, .int .u64 0, .int .i64 0, .slice none 0 0]) R2.out szC (Nat.le_of_ble_eq_true rfl) rfl rfl ?_ ?_ ?_; exact rfl; exact rfl; intro w9 hp9)
        have HB9 := hp9.below HB.out (HB.out).size (by omega)
        exact bodyPost_ret (results_row_tmp3 Try.results25 _ _ (w.heap.size + 2) 51 _ _ _ rfl hp9.at' Try.underlying51 rfl szC) rfl (joinB_no 200 HT.out (by decide) rfl HB9)
      · have c2 : ((xs.length : Int) != 0) = true := by rw [bne_iff_ne]; omega
        clear hk k1 k2
        go_wp2_with (refine wpList_store_lit 51 (w.heap.size + 2) 0 #[.int .i64 0, .int .i64 0, .int .i64 0, .int .i64 0, .int .i64 0, .int .i64 0, .int .u64 0, .int .u64 0, .int .u64 0, .int .i64 0, .slice none 0 0] (.agg #[.int .i64 0, .int .i64 0, .int .i64 0, .int .i64 0, .int .i64 0, .int .i64 0, .int .u64 0, .int .u64 0, .int .u64 0, .int .i64 0, .slice none 0 0]) R2.out szC (Nat.le_of_ble_eq_true rfl) rfl rfl ?_ ?_ ?_; exact rfl; exact rfl; intro w9 hp9)
        have HB9 := hp9.below HB.out (HB.out).size (by omega)
        exact bodyPost_ret (results_row_tmp3 Try.results25 _ _ (w.heap.size + 2) 51 _ _ _ rfl hp9.at' Try.underlying51 rfl szC) rfl (joinB_no 200 HT.out (by decide) rfl HB9)
    · have c1 : (k != 5) = true := by simpa using k1
      clear hk k1
      go_wp2_with (refine wpList_store_lit 51 (w.heap.size + 2) 0 #[.int .i64 0, .int .i64 0, .int .i64 0, .int .i64 0, .int .i64 0, .int .i64 0, .int .u64 0, .int .u64 0, .int .u64 0, .int .i64 0, .slice none 0 0] (.agg #[.int .i64 0, .int .i64 0, .int .i64 0, .int .i64 0, .int .i64 0, .int .i64 0, .int .u64 0, .int .u64 0, .int .u64 0, .int .i64 0, .slice none 0 0]) R2.out szC (Nat.le_of_ble_eq_true rfl) rfl rfl ?_ ?_ ?_; exact rfl; exact rfl; intro w9 hp9)
      have HB9 := hp9.below HB.out (HB.out).size (by omega)
      exact bodyPost_ret (results_row_tmp3 Try.results25 _ _ (w.heap.size + 2) 51 _ _ _ rfl hp9.at' Try.underlying51 rfl szC) rfl (joinB_no 200 HT.out (by decide) rfl HB9)
  have HJ := Lib.hid (show joinV ⟨n, k, b, d, t, wn, p, r, s, o, ea, ec, es⟩ ⟨xa, xi, xc, xp, xw, xk, xs⟩ = if rgt ⟨xa, xi, xc, xp, xw, xk, xs⟩ = true then (if hasA es xa = true then 236 else if 16 ≤ es.length then 232 else 0) else 210 by unfold joinV; rw [if_pos hk])
  have c1 : (k != 5) = false := by simpa using hk.1
  have c2 : ((xs.length : Int) != 0) = false := by rw [bne_eq_false_iff_eq]; omega
  have c3 : decide (xi < 0) = false := decide_eq_false (by omega)
  have HXS := Lib.hid (show xs = [] from List.length_eq_zero_iff.1 hk.2.1)
  have HKK := Lib.hid hk
  clear hk
  go_wp2_with fail
  refine (HK.out _).mono ?_
  rintro r0 w1 ⟨rfl, hb⟩
  have HJ2 := Lib.hid HJ.out
  generalize rgt ⟨xa, xi, xc, xp, xw, xk, xs⟩ = ep at *
  have HB := Lib.hid (HB.out.trans (hb.mono HB.out.size))
  have R0 := Lib.hid (row_kept R0.out hb)
  have R1 := Lib.hid (row_kept R1.out hb)
  have R2 := Lib.hid (row_kept R2.out hb)
  have R3 := Lib.hid (row_kept R3.out hb)
  clear hb HK p0 p1 p2 p3 p4 p5 p6 p7 p8 p9 p10 q0 q1 q2 q3 q4 z0 z1 z2 z3 z4 z5 z6 z7 z8 z9 z10
  obtain ⟨p0, p1, p2, p3, p4, p5, p6, p7, p8, p9, p10⟩ := cells11 R0.out
  obtain ⟨q0, q1, q2, q3, q4⟩ := cells5 R1.out
  obtain ⟨z0, z1, z2, z3, z4, z5, z6, z7, z8, z9, z10⟩ := cells11 R3.out
  cases ep
  case false =>
    have HT := Lib.hid (HJ2.out.trans (if_neg (by decide)))
    go_wp2_with (refine wpList_store_lit 51 (w.heap.size + 2) 0 #[.int .i64 0, .int .i64 0, .int .i64 0, .int .i64 0, .int .i64 0, .int .i64 0, .int .u64 0, .int .u64 0, .int .u64 0, .int .i64 0, .slice none 0 0] (.agg #[.int .i64 0, .int .i64 0, .int .i64 0, .int .i64 0, .int .i64 0, .int .i64 0, .int .u64 0, .int .u64 0, .int .u64 0, .int .i64 0, .slice none 0 0]) R2.out szC (Nat.le_of_ble_eq_true rfl) rfl rfl ?_ ?_ ?_; exact rfl; exact rfl; intro w9 hp9)
    have HB9 := hp9.below HB.out (HB.out).size (by omega)
    exact bodyPost_ret (results_row_tmp3 Try.results25 _ _ (w.heap.size + 2) 51 _ _ _ rfl hp9.at' Try.underlying51 rfl szC) rfl (joinB_no 210 HT.out (by decide) rfl HB9)
  have HJ3 := Lib.hid (HJ2.out.trans (if_pos rfl))
  clear HJ HJ2
  go_wp2_with fail
  refine (contains_any ea ec es xa (w.heap.size + 1) w1 (by omega) ((HC.out.kept HB.out).sl) q0).mono ?_
  rintro r0 w2 ⟨rfl, hb⟩
  have HB := Lib.hid (HB.out.trans (hb.mono HB.out.size))
  have R0 := Lib.hid (row_kept R0.out hb)
  have R1 := Lib.hid (row_kept R1.out hb)
  have R2 := Lib.hid (row_kept R2.out hb)
  have R3 := Lib.hid (row_kept R3.out hb)
  clear hb p0 p1 p2 p3 p4 p5 p6 p7 p8 p9 p10 q0 q1 q2 q3 q4 z0 z1 z2 z3 z4 z5 z6 z7 z8 z9 z10
  obtain ⟨p0, p1, p2, p3, p4, p5, p6, p7, p8, p9, p10⟩ := cells11 R0.out
  obtain ⟨q0, q1, q2, q3, q4⟩ := cells5 R1.out
  obtain ⟨z0, z1, z2, z3, z4, z5, z6, z7, z8, z9, z10⟩ := cells11 R3.out
  generalize hha : hasA es xa = ha at *
  clear hha
  cases ha
  case true =>
    have HT := Lib.hid (HJ3.out.trans (if_pos rfl))
    go_wp2_with (refine wpList_store_lit 51 (w.heap.size + 2) 0 #[.int .i64 0, .int .i64 0, .int .i64 0, .int .i64 0, .int .i64 0, .int .i64 0, .int .u64 0, .int .u64 0, .int .u64 0, .int .i64 0, .slice none 0 0] (.agg #[.int .i64 0, .int .i64 0, .int .i64 0, .int .i64 0, .int .i64 0, .int .i64 0, .int .u64 0, .int .u64 0, .int .u64 0, .int .i64 0, .slice none 0 0]) R2.out szC (Nat.le_of_ble_eq_true rfl) rfl rfl ?_ ?_ ?_; exact rfl; exact rfl; intro w9 hp9)
    have HB9 := hp9.below HB.out (HB.out).size (by omega)
    exact bodyPost_ret (results_row_tmp3 Try.results25 _ _ (w.heap.size + 2) 51 _ _ _ rfl hp9.at' Try.underlying51 rfl szC) rfl (joinB_no 236 HT.out (by decide) rfl HB9)
  have HJ4 := Lib.hid (HJ3.out.trans (if_neg (by decide)))
  clear HJ3
  by_cases hl : 16 ≤ es.length
  case pos =>
    have HT := Lib.hid (HJ4.out.trans (if_pos hl))
    have c3 : decide ((es.length : Int) ≥ 16) = true := decide_eq_true (by omega)
    clear hl
    go_wp2_with (refine wpList_store_lit 51 (w.heap.size + 2) 0 #[.int .i64 0, .int .i64 0, .int .i64 0, .int .i64 0, .int .i64 0, .int .i64 0, .int .u64 0, .int .u64 0, .int .u64 0, .int .i64 0, .slice none 0 0] (.agg #[.int .i64 0, .int .i64 0, .int .i64 0, .int .i64 0, .int .i64 0, .int .i64 0, .int .u64 0, .int .u64 0, .int .u64 0, .int .i64 0, .slice none 0 0]) R2.out szC (Nat.le_of_ble_eq_true rfl) rfl rfl ?_ ?_ ?_; exact rfl; exact rfl; intro w9 hp9)
    have HB9 := hp9.below HB.out (HB.out).size (by omega)
    exact bodyPost_ret (results_row_tmp3 Try.results25 _ _ (w.heap.size + 2) 51 _ _ _ rfl hp9.at' Try.underlying51 rfl szC) rfl (joinB_no 232 HT.out (by decide) rfl HB9)
  have HT := Lib.hid (HJ4.out.trans (if_neg hl))
  have c3 : decide ((es.length : Int) ≥ 16) = false := decide_eq_false (by omega)
  clear HJ4
  obtain ⟨MC, hMC, hmk⟩ := made43 es.length hm
  have HMC := Lib.hid hMC
  clear hMC hm z0 z1 z2 z3 z4 z5 z6 z7 z8 z9 z10
  have hsum : (es.length : Int) + 1 ≤ 16 := by omega
  have hB1 := (Below.refl w2.heap.size w2).alloc (Nat.le_refl _) (.cells MC 53)
  have p10' := below_cell hB1 p10
  have HO0 := Lib.hid (show (w2.alloc (.cells MC 53)).ownsRow w2.heap.size 53 5 (.slice (some ⟨w2.heap.size, 0, none⟩) 0 (es.length + 1)) 0 (eFlat []) from ⟨rfl, .inr ⟨w2.heap.size, es.length + 1, MC, rfl, Nat.le_refl _, alloc_at rfl, Nat.zero_le _, by unfold maxLen; omega, HMC.out, rfl⟩⟩)
  have HB1 := Lib.hid hB1
  have HSZ := Lib.hid (show w.heap.size + 4 ≤ w2.heap.size from by have := lt_row R3.out; omega)
  clear hB1
  go_wp2
  clear p0 p1 p2 p3 p4 p5 p6 p7 p8 p9 p10 p10' q0 q1 q2 q3 q4 hmk R3 HKK
  go_loopw [9, 11, 53] (fun v' s11 i wr => ∃ (j : Nat) (v : Value) (ls : List Ent), v = v' ∧ j ≤ es.length ∧ i = .int .i64 j ∧ ls.length = j ∧ ls.map Ent.d = (es.take j).map Ent.d ∧ Below w2.heap.size w2 wr ∧ wr.ownsRow w2.heap.size 53 5 v j (eFlat ls) ∧ (∀ e ∈ ls, NewE w2.heap.size wr e) ∧ DisE ls) (fun _ _ i _ => es.length - (intOf i).toNat)
  case atStart => exact ⟨0, _, [], rfl, by omega, rfl, rfl, rfl, HB1.out, HO0.out, (fun e he => absurd he (by simp)), DisE.nil⟩
  case round =>
    clear HB1 HO0
    obtain ⟨j, v, ls, hv, hj, rfl, hll, hld, hb, ho, hme, hdi⟩ := hrel
    subst hv
    have HBL := Lib.hid hb
    have HO := Lib.hid ho
    have HM := Lib.hid hme
    have HDI := Lib.hid hdi
    clear hdi
    have HLL := Lib.hid hll
    have HLD := Lib.hid hld
    have HWS := Lib.hid (HB.out.trans (hb.mono HB.out.size))
    clear hb ho hme hll hld
    by_cases hlt : j < es.length
    · have t0 : decide ((j : Int) < (es.length : Int)) = true := by simp; omega
      have i1 : (j : Int) < (es.length : Int) := by omega
      obtain ⟨ob, oo, hea, f0, f1, f2, f3, f4⟩ := (HC.out.kept HWS.out).ent j hlt
      simp only at hea f0 f1 f2 f3 f4
      subst hea
      have HX := Lib.hid ((HC.out.ents _ (List.getElem_mem hlt)).kept HWS.out)
      have HD := Lib.hid (show (es.take (j + 1)).map Ent.d = (es.take j).map Ent.d ++ [es[j].d] by rw [List.take_succ_eq_append_getElem hlt, List.map_append]; rfl)
      generalize es[j] = x at *
      obtain ⟨ya, yi, yc, yp, yw, yk, ys⟩ := x
      simp only at f0 f1 f2 f3 f4
      go_wp2_with ((with_reducible refine at_store_op ?_); refine wpList_store_lit 53 wr.heap.size 0 #[.int .i64 ya, .int .i64 yi, .int .u64 yc, .int .u64 yp, .slice yw ys.length yk] (.agg #[.int .i64 ya, .int .i64 yi, .int .u64 yc, .int .u64 yp, .slice yw ys.length yk]) (alloc_at rfl) szE (Nat.le_of_ble_eq_true rfl) rfl rfl ?_ ?_ ?_; exact rfl; exact rfl; intro w3 hp3; obtain ⟨e0, e1, e2, e3, e4⟩ := cells5 hp3.at')
      have hb3 := hp3.below ((Below.refl wr.heap.size wr).alloc (Nat.le_refl _) _) ((Below.refl wr.heap.size wr).alloc (Nat.le_refl _) _).size (Nat.le_refl _)
      have HP3 := Lib.hid hp3
      have HB3 := Lib.hid hb3
      clear hp3 hb3 f0 f1 f2 f3 f4
      go_wp2_with fail
      refine (clone_all yw yk ys w3 HX.out.mx (HX.out.kept HB3.out).sl HX.out.nil).mono ?_
      rintro r0 w4 ⟨a', c', rfl, ho4, hb4⟩
      have HO4 := Lib.hid ho4
      have HDJ := Lib.hid (HDI.out.push (y := ⟨ya, yi, yc, yp, a', c', ys⟩) (n := wr.heap.size) (fun x hx b hb' => ((HM.out x hx).row.lt b hb').2) (fun b hb' => Nat.le_trans HB3.out.size (ho4.lt b hb').1))
      have HB4 := Lib.hid (HB3.out.trans (hb4.mono HB3.out.size))
      have hr4 := row_kept HP3.out.at' hb4
      have HS3 := Lib.hid (lt_row HP3.out.at')
      clear ho4 hb4 e0 e1 e2 e3 e4
      go_wp2_with (first
        | ((with_reducible refine at_store_op ?_); refine wpList_store_lit 24 wr.heap.size 4 #[.int .i64 ya, .int .i64 yi, .int .u64 yc, .int .u64 yp, .slice a' ys.length c'] (.slice a' ys.length c') hr4 szL (Nat.le_of_ble_eq_true rfl) rfl rfl ?_ ?_ ?_; exact rfl; exact rfl; intro w5 hp5; obtain ⟨e0, e1, e2, e3, e4⟩ := cells5 hp5.at'
           have HB5 := Lib.hid (hp5.below HB4.out HB4.out.size (Nat.le_refl _))
           have HY := Lib.hid (show NewE w2.heap.size w5 ⟨ya, yi, yc, yp, a', c', ys⟩ from ⟨owns_base (HO4.out.kept hp5.grown (.inr (fun e => by have := (HO4.out.lt _ e).1; have := HS3.out; omega))) (by have := HBL.out.size; have := HB3.out.size; omega), HX.out.mx, HX.out.wf, HX.out.iw, HX.out.cw, HX.out.pw⟩)
           have HO5 := Lib.hid (owns_below (B := 0) HO.out HB5.out)
           have HM5 := Lib.hid (show ∀ e ∈ ls, NewE w2.heap.size w5 e from fun e he => (HM.out e he).kept HB5.out)
           have HW5 := Lib.hid (HBL.out.trans (HB5.out.mono HBL.out.size))
           clear hp5 hr4)
        | (at_builtin; refine wpList_append_sl rfl _ _ 49 rfl w2.heap.size 53 (.agg #[.int .i64 0, .int .i64 0, .int .u64 0, .int .u64 0, .slice none 0 0]) 5 56 Try.underlying49 infoE rfl (by decide) v j (eFlat ls) rfl (HO5.out.alloc _) (some ⟨w5.heap.size, 0, none⟩) 1 1 (eFlat [⟨ya, yi, yc, yp, a', c', ys⟩]) rfl (fun h => by cases h) ?a1 (sl_new _ _ _ _) (oneCell_eFlat _) ?a2 ?a3 ?a4 ?a5))
      case a1 => rfl
      case a2 => unfold maxLen; omega
      case a3 => omega
      case a4 => have := HW5.out.size; simp only [World.size_alloc]; omega
      intro v6 w6 ho6 hg6
      have hbz := (Below.refl w5.heap.size w5).alloc (Nat.le_refl _) (.cells #[.int .i64 ya, .int .i64 yi, .int .u64 yc, .int .u64 yp, .slice a' ys.length c'] 53)
      have ho5 := HO5.out.alloc (.cells #[.int .i64 ya, .int .i64 yi, .int .u64 yc, .int .u64 yp, .slice a' ys.length c'] 53)
      have HB6 := Lib.hid ((HW5.out.trans (hbz.mono HW5.out.size)).grown hg6 (HW5.out.trans (hbz.mono HW5.out.size)).size (fun k hk => (ho5.lt k hk).1))
      have HO6 := Lib.hid ho6
      have HM6 := Lib.hid (show ∀ e ∈ ls ++ [⟨ya, yi, yc, yp, a', c', ys⟩], NewE w2.heap.size w6 e from fun e he => by
        rcases List.mem_append.1 he with h | h
        · exact ((HM5.out e h).kept hbz).grown ho5 hg6
        · rw [List.mem_singleton] at h
          subst h
          exact (HY.out.kept hbz).grown ho5 hg6)
      clear ho6 hg6 hbz ho5 e0 e1 e2 e3 e4
      go_wp2
      go_roundw
      case rel => exact ⟨j + 1, _, ls ++ [⟨ya, yi, yc, yp, a', c', ys⟩], rfl, by omega, by go_num, by rw [List.length_append, HLL.out]; rfl, by rw [HD.out, List.map_append, HLD.out]; rfl, HB6.out, by rw [eFlat_append]; exact HO6.out, HM6.out, HDJ.out⟩
      case measure => simp [intOf]; omega
    · have t0 : decide ((j : Int) < (es.length : Int)) = false := by simp; omega
      have hje : j = es.length := by omega
      have HDD := Lib.hid (show ls.map Ent.d = es.map Ent.d by rw [HLD.out, hje, List.take_length])
      have HLE := Lib.hid (show ls.length = es.length by rw [HLL.out, hje])
      have HO' := Lib.hid (show wr.ownsRow w2.heap.size 53 5 v es.length (eFlat ls) from hje ▸ HO.out)
      clear HO HLL HLD hje
      have HX := Lib.hid (HE.out.kept HWS.out)
      have HR1 := Lib.hid (row_kept R1.out HBL.out)
      obtain ⟨q0, q1, q2, q3, q4⟩ := cells5 HR1.out
      have HDJ := Lib.hid (HDI.out.push (y := ⟨xa, xi, xc, xp, none, 0, []⟩) (n := wr.heap.size) (fun x hx b hb' => ((HM.out x hx).row.lt b hb').2) (fun b hb' => by cases hb'))
      have HB4 := HBL
      have hr4 := HR1.out
      have HO5 := HO'
      have HM5 := HM
      have hr0 := row_kept R0.out HBL.out
      have hr2 := row_kept R2.out HBL.out
      have HS4 := Lib.hid HBL.out.size
      clear q0 q1 q2 q3 q4
      go_wp2_with (first
        | ((with_reducible refine at_store_op ?_); refine wpList_store_lit 24 (w.heap.size + 1) 4 #[.int .i64 xa, .int .i64 xi, .int .u64 xc, .int .u64 xp, .slice none 0 0] (.slice none 0 0) hr4 szL (Nat.le_of_ble_eq_true rfl) rfl rfl ?_ ?_ ?_; exact rfl; exact rfl; intro w5 hp5; obtain ⟨e0, e1, e2, e3, e4⟩ := cells5 hp5.at'
           have HY := Lib.hid (show NewE w2.heap.size w5 ⟨xa, xi, xc, xp, none, 0, []⟩ from ⟨World.ownsRow_nil _ _ _ _, Nat.zero_le _, (fun x hx => by cases hx), HX.out.iw, HX.out.cw, HX.out.pw⟩)
           have HO6 := Lib.hid (HO5.out.kept hp5.grown (.inr (fun e => by have := (HO5.out.lt _ e).1; have := HSZ.out; omega)))
           have HM6 := Lib.hid (show ∀ e ∈ ls, NewE w2.heap.size w5 e from fun e he => (HM5.out e he).put hp5 (by have := HSZ.out; omega))
           have HW5 := Lib.hid (hp5.below (HB.out.trans (HB4.out.mono HB.out.size)) (HB.out.trans (HB4.out.mono HB.out.size)).size (by omega))
           have HS5 := Lib.hid (show w2.heap.size ≤ w5.heap.size from by have := HB4.out.size; have := hp5.size; omega)
           have s0 := hp5.row hr0 (by omega)
           have s2 := hp5.row hr2 (by omega)
           have HS0 := Lib.hid s0
           have HS2 := Lib.hid s2
           clear hp5 hr4 hr0 hr2 s0 s2)
        | (at_builtin; refine wpList_append_sl rfl _ _ 49 rfl w2.heap.size 53 (.agg #[.int .i64 0, .int .i64 0, .int .u64 0, .int .u64 0, .slice none 0 0]) 5 56 Try.underlying49 infoE rfl (by decide) v es.length (eFlat ls) rfl (HO6.out.alloc _) (some ⟨w5.heap.size, 0, none⟩) 1 1 (eFlat [⟨xa, xi, xc, xp, none, 0, []⟩]) rfl (fun h => by cases h) ?d1 (sl_new _ _ _ _) (oneCell_eFlat _) ?d2 ?d3 ?d4 ?d5))
      case d1 => rfl
      case d2 => unfold maxLen; omega
      case d3 => omega
      case d4 => have := HS5.out; simp only [World.size_alloc]; omega
      intro v7 w7 ho7 hg7
      have hbz := (Below.refl w5.heap.size w5).alloc (Nat.le_refl _) (.cells #[.int .i64 xa, .int .i64 xi, .int .u64 xc, .int .u64 xp, .slice none 0 0] 53)
      have ho6 := HO6.out.alloc (.cells #[.int .i64 xa, .int .i64 xi, .int .u64 xc, .int .u64 xp, .slice none 0 0] 53)
      have HB7 := Lib.hid ((HW5.out.trans (hbz.mono HW5.out.size)).grown hg7 (HW5.out.trans (hbz.mono HW5.out.size)).size (fun k hk => by have := (ho6.lt k hk).1; have := HSZ.out; omega))
      have HM7 := Lib.hid (show ∀ e ∈ ls ++ [⟨xa, xi, xc, xp, none, 0, []⟩], NewE w2.heap.size w7 e from fun e he => by
        rcases List.mem_append.1 he with h | h
        · exact ((HM6.out e h).kept hbz).grown ho6 hg7
        · rw [List.mem_singleton] at h
          subst h
          exact (HY.out.kept hbz).grown ho6 hg7)
      have q0 := row_past (alloc_old HS0.out) hg7 (fun h => by have := (ho6.lt _ h.symm).1; have := HSZ.out; omega)
      have q2 := row_past (alloc_old HS2.out) hg7 (fun h => by have := (ho6.lt _ h.symm).1; have := HSZ.out; omega)
      have HO7 := Lib.hid (show w7.ownsRow w2.heap.size 53 5 v7 (es.length + 1) (eFlat (ls ++ [⟨xa, xi, xc, xp, none, 0, []⟩])) from by rw [eFlat_append]; exact ho7)
      obtain ⟨a7, c7, rfl, _⟩ := owns_slice HO7.out
      clear ho7 hg7 ho6 hbz e0 e1 e2 e3 e4
      go_wp2_with (first
        | ((with_reducible refine at_store_op ?_); refine wpList_store_lit 49 w.heap.size 10 #[.int .i64 n, .int .i64 k, .int .i64 b, .int .i64 d, .int .i64 t, .int .i64 wn, .int .u64 p, .int .u64 r, .int .u64 s, .int .i64 o, .slice a7 (es.length + 1) c7] (.slice a7 (es.length + 1) c7) q0 szEs (Nat.le_of_ble_eq_true rfl) rfl rfl ?_ ?_ ?_; exact rfl; exact rfl; intro w8 hp8; obtain ⟨e0, e1, e2, e3, e4, e5, e6, e7, e8, e9, e10⟩ := cells11 hp8.at'; have s2 := hp8.row q2 (by omega))
        | ((with_reducible refine at_store_op ?_); refine wpList_store_lit 51 (w.heap.size + 2) 0 #[.int .i64 n, .int .i64 k, .int .i64 b, .int .i64 d, .int .i64 t, .int .i64 wn, .int .u64 p, .int .u64 r, .int .u64 s, .int .i64 o, .slice a7 (es.length + 1) c7] (.agg #[.int .i64 n, .int .i64 k, .int .i64 b, .int .i64 d, .int .i64 t, .int .i64 wn, .int .u64 p, .int .u64 r, .int .u64 s, .int .i64 o, .slice a7 (es.length + 1) c7]) s2 szC (Nat.le_of_ble_eq_true rfl) rfl rfl ?_ ?_ ?_; exact rfl; exact rfl; intro w9 hp9))
      have hsz := HSZ.out
      have hb8 := hp8.below HB7.out HB7.out.size (Nat.le_refl _)
      have hb9 := hp9.below hb8 hb8.size (by omega)
      have ho9 := (HO7.out.kept hp8.grown (.inr (fun e => by have := (HO7.out.lt _ e).1; omega))).kept hp9.grown (.inr (fun e => by have := (HO7.out.lt _ e).1; omega))
      have hm9 : ∀ e ∈ ls ++ [⟨xa, xi, xc, xp, none, 0, []⟩], NewE w2.heap.size w9 e := fun e he => ((HM7.out e he).put hp8 (by omega)).put hp9 (by omega)
      have hln : (ls ++ [(⟨xa, xi, xc, xp, none, 0, []⟩ : Ent)]).length = es.length + 1 := by rw [List.length_append, HLE.out]; rfl
      refine bodyPost_ret (results_row_tmp3 Try.results25 _ _ (w.heap.size + 2) 51 _ _ _ rfl hp9.at' Try.underlying51 rfl szC) rfl ⟨⟨n, k, b, d, t, wn, p, r, s, o, a7, c7, ls ++ [⟨xa, xi, xc, xp, none, 0, []⟩]⟩, ?_, hb9, ⟨?_, fun e he => (hm9 e he).base (by omega), by simp only [hln]; omega⟩, ?_, HDJ.out⟩
      · simp only [Con.agg, hln, HT.out]; rfl
      · simp only [hln]; exact owns_base ho9 (by omega)
      · rw [HT.out, if_pos rfl]
        show (_, _, (ls ++ [_]).map Ent.d) = (_, _, es.map Ent.d ++ [_])
        rw [List.map_append, HDD.out, HXS.out]; rfl
end Go.Proofs.Ytbggibdldadpiaa

