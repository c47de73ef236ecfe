/-
  Layer 21: Join, the document's.
-/
import Derived.Test.YtpejcndfplbikaaVt
namespace Go.Proofs.Ytpejcndfplbikaa
open Go.RowKit Go.K
set_option linter.unusedVariables false
set_option linter.unusedSimpArgs false
set_option maxRecDepth 100000 in
set_option maxHeartbeats 8000000 in
theorem rjoin_any (c : Con) (e : Ent) (w : World) (hc : ConOk w c) (he : EntOk w e) : Calls Try.prog 12 #[c.agg, e.agg] w (JoinAns w c e) := by
  have HC := Lib.hid hc
  have HE := Lib.hid he
  have hm : c.es.length ≤ 2513169434843 := hc.mx
  have HKL := Lib.hid (fun V (h : Below w.heap.size w V) => least_any c e.coins V he.cw (hc.kept h))
  clear hc he
  obtain ⟨xa, xi, xc, xp, xw, xk, xs⟩ := e
  unfold Con.agg at HKL
  unfold Con.agg Ent.agg
  simp only at HKL ⊢
  go_enter Try.func12, Try.ntmps12
  go_upto_if 19 with fail
  refine wp_world (fun W => Below w.heap.size w W ∧ W.heap[w.heap.size]? = some (.cells #[.int .i64 c.num, .int .i64 c.kind, .int .i64 c.by', .int .i64 c.dl, .int .i64 c.to', .int .i64 c.want, .int .u64 c.price, .int .u64 c.reserve, .int .u64 c.step, .int .i64 c.of', .slice c.ea c.es.length c.ec] 25) ∧ W.heap[w.heap.size + 1]? = some (.cells #[.int .i64 xa, .int .i64 xi, .int .u64 xc, .int .u64 xp, .slice xw xs.length xk] 33) ∧ W.heap[w.heap.size + 1 + 1]? = some (.cells #[.int .i64 0, .int .i64 0, .int .i64 0, .int .i64 0, .int .i64 0, .int .i64 0, .int .u64 0, .int .u64 0, .int .u64 0, .int .i64 0, .slice none 0 0] 25) ∧ W.heap[w.heap.size + 1 + 1 + 1]? = some (.cells #[.int .i64 0, .int .i64 0, .int .i64 0, .int .i64 0, .int .i64 0, .int .i64 0, .int .u64 0, .int .u64 0, .int .u64 0, .int .i64 0, .slice none 0 0] 25))
    ⟨((((Below.refl _ _).alloc (Nat.le_refl _) _).alloc (by simp) _).alloc (by simp; omega) _).alloc (by simp; omega) _, alloc_old (alloc_old (alloc_old (alloc_at rfl))), alloc_old (alloc_old (alloc_at (by simp))), alloc_old (alloc_at (by simp)), alloc_at (by simp)⟩ ?_
  rintro W ⟨hB, hR0, hR1, hR2, hR3⟩
  have HB := Lib.hid hB
  have R0 := Lib.hid hR0
  have R1 := Lib.hid hR1
  have R2 := Lib.hid hR2
  have R3 := Lib.hid hR3
  obtain ⟨p0, p1, p2, p3, p4, p5, p6, p7, p8, p9, p10⟩ := cells11 hR0
  obtain ⟨q0, q1, q2, q3, q4⟩ := cells5 hR1
  obtain ⟨z0, z1, z2, z3, z4, z5, z6, z7, z8, z9, z10⟩ := cells11 hR3
  clear hB hR0 hR1 hR2 hR3
  by_cases h : xa = c.by'
  case pos =>
    have HT := Lib.hid (show joinV c.kind c.by' c.reserve c.step (c.es.map Ent.d) (xa, xi, xc, xp, xs) = 234 from by unfold joinV; rw [if_pos h])
    have c0 : (xa == c.by') = true := by simpa using h
    clear h
    go_wp2_with ((with_reducible refine at_store_op ?_); refine wpList_store_lit 25 (w.heap.size + 1 + 1) 0 #[.int .i64 0, .int .i64 0, .int .i64 0, .int .i64 0, .int .i64 0, .int .i64 0, .int .u64 0, .int .u64 0, .int .u64 0, .int .i64 0, .slice none 0 0] (.agg #[.int .i64 0, .int .i64 0, .int .i64 0, .int .i64 0, .int .i64 0, .int .i64 0, .int .u64 0, .int .u64 0, .int .u64 0, .int .i64 0, .slice none 0 0]) R2.out szC (Nat.le_of_ble_eq_true rfl) rfl rfl ?_ ?_ ?_; exact rfl; exact rfl; intro w9 hp9)
    have hb9 := HB.out
    have HB9 := hp9.below hb9 hb9.size (by omega)
    exact bodyPost_ret (results_row_tmp3 Try.results12 _ _ (w.heap.size + 1 + 1) 25 _ _ _ rfl hp9.at' Try.underlying25 rfl szC) rfl (joinA_no 234 HT.out (by decide) rfl HB9)
  have c0 : (xa == c.by') = false := by simpa using h
  have HA := Lib.hid h
  clear h
  by_cases hk : c.kind = 2 ∨ c.kind = 3
  case neg =>
    have HT := Lib.hid (show joinV c.kind c.by' c.reserve c.step (c.es.map Ent.d) (xa, xi, xc, xp, xs) = 200 from by unfold joinV; rw [if_neg HA.out, if_neg (fun hh => hk hh.1)])
    have c2 : (c.kind != 2) = true := by simp; omega
    have c3 : (c.kind != 3) = true := by simp; omega
    clear hk
    go_wp2_with ((with_reducible refine at_store_op ?_); refine wpList_store_lit 25 (w.heap.size + 1 + 1) 0 #[.int .i64 0, .int .i64 0, .int .i64 0, .int .i64 0, .int .i64 0, .int .i64 0, .int .u64 0, .int .u64 0, .int .u64 0, .int .i64 0, .slice none 0 0] (.agg #[.int .i64 0, .int .i64 0, .int .i64 0, .int .i64 0, .int .i64 0, .int .i64 0, .int .u64 0, .int .u64 0, .int .u64 0, .int .i64 0, .slice none 0 0]) R2.out szC (Nat.le_of_ble_eq_true rfl) rfl rfl ?_ ?_ ?_; exact rfl; exact rfl; intro w9 hp9)
    have hb9 := HB.out
    have HB9 := hp9.below hb9 hb9.size (by omega)
    exact bodyPost_ret (results_row_tmp3 Try.results12 _ _ (w.heap.size + 1 + 1) 25 _ _ _ rfl hp9.at' Try.underlying25 rfl szC) rfl (joinA_no 200 HT.out (by decide) rfl HB9)
  rcases hk with hk | hk
  · have HK2 := Lib.hid hk
    have c2 : (c.kind != 2) = false := by simpa using hk
    have c2e : (c.kind == 2) = true := by simpa using hk
    have c3e : (c.kind == 3) = false := by rw [hk]; rfl
    clear hk
    by_cases h : c.es.length = 0
    case pos =>
      have HT := Lib.hid (show joinV c.kind c.by' c.reserve c.step (c.es.map Ent.d) (xa, xi, xc, xp, xs) = 200 from by unfold joinV; rw [if_neg HA.out, if_neg (fun hh => hh.2.1 (by rw [List.length_map]; exact h))])
      have c1 : ((c.es.length : Int) == 0) = true := by rw [h]; rfl
      clear h
      go_wp2_with ((with_reducible refine at_store_op ?_); refine wpList_store_lit 25 (w.heap.size + 1 + 1) 0 #[.int .i64 0, .int .i64 0, .int .i64 0, .int .i64 0, .int .i64 0, .int .i64 0, .int .u64 0, .int .u64 0, .int .u64 0, .int .i64 0, .slice none 0 0] (.agg #[.int .i64 0, .int .i64 0, .int .i64 0, .int .i64 0, .int .i64 0, .int .i64 0, .int .u64 0, .int .u64 0, .int .u64 0, .int .i64 0, .slice none 0 0]) R2.out szC (Nat.le_of_ble_eq_true rfl) rfl rfl ?_ ?_ ?_; exact rfl; exact rfl; intro w9 hp9)
      have hb9 := HB.out
      have HB9 := hp9.below hb9 hb9.size (by omega)
      exact bodyPost_ret (results_row_tmp3 Try.results12 _ _ (w.heap.size + 1 + 1) 25 _ _ _ rfl hp9.at' Try.underlying25 rfl szC) rfl (joinA_no 200 HT.out (by decide) rfl HB9)
    have c1 : ((c.es.length : Int) == 0) = false := by simp; intro e; exact h (by rw [e]; rfl)
    have hn1 : 1 ≤ c.es.length := by omega
    clear h
    by_cases h : xi = 0
    case neg =>
      have HT := Lib.hid (show joinV c.kind c.by' c.reserve c.step (c.es.map Ent.d) (xa, xi, xc, xp, xs) = 200 from by unfold joinV; rw [if_neg HA.out, if_neg (fun hh => h hh.2.2.1)])
      have cb : (xi != 0) = true := by simpa using h
      clear h
      go_wp2_with ((with_reducible refine at_store_op ?_); refine wpList_store_lit 25 (w.heap.size + 1 + 1) 0 #[.int .i64 0, .int .i64 0, .int .i64 0, .int .i64 0, .int .i64 0, .int .i64 0, .int .u64 0, .int .u64 0, .int .u64 0, .int .i64 0, .slice none 0 0] (.agg #[.int .i64 0, .int .i64 0, .int .i64 0, .int .i64 0, .int .i64 0, .int .i64 0, .int .u64 0, .int .u64 0, .int .u64 0, .int .i64 0, .slice none 0 0]) R2.out szC (Nat.le_of_ble_eq_true rfl) rfl rfl ?_ ?_ ?_; exact rfl; exact rfl; intro w9 hp9)
      have hb9 := HB.out
      have HB9 := hp9.below hb9 hb9.size (by omega)
      exact bodyPost_ret (results_row_tmp3 Try.results12 _ _ (w.heap.size + 1 + 1) 25 _ _ _ rfl hp9.at' Try.underlying25 rfl szC) rfl (joinA_no 200 HT.out (by decide) rfl HB9)
    have cxi : (xi != 0) = false := by simpa using h
    have Hxi := Lib.hid h
    clear h
    by_cases h : xp = 0
    case neg =>
      have HT := Lib.hid (show joinV c.kind c.by' c.reserve c.step (c.es.map Ent.d) (xa, xi, xc, xp, xs) = 200 from by unfold joinV; rw [if_neg HA.out, if_neg (fun hh => h hh.2.2.2.1)])
      have cb : (xp != 0) = true := by simpa using h
      clear h
      go_wp2_with ((with_reducible refine at_store_op ?_); refine wpList_store_lit 25 (w.heap.size + 1 + 1) 0 #[.int .i64 0, .int .i64 0, .int .i64 0, .int .i64 0, .int .i64 0, .int .i64 0, .int .u64 0, .int .u64 0, .int .u64 0, .int .i64 0, .slice none 0 0] (.agg #[.int .i64 0, .int .i64 0, .int .i64 0, .int .i64 0, .int .i64 0, .int .i64 0, .int .u64 0, .int .u64 0, .int .u64 0, .int .i64 0, .slice none 0 0]) R2.out szC (Nat.le_of_ble_eq_true rfl) rfl rfl ?_ ?_ ?_; exact rfl; exact rfl; intro w9 hp9)
      have hb9 := HB.out
      have HB9 := hp9.below hb9 hb9.size (by omega)
      exact bodyPost_ret (results_row_tmp3 Try.results12 _ _ (w.heap.size + 1 + 1) 25 _ _ _ rfl hp9.at' Try.underlying25 rfl szC) rfl (joinA_no 200 HT.out (by decide) rfl HB9)
    have cxp : (xp != 0) = false := by simpa using h
    have Hxp := Lib.hid h
    clear h
    by_cases h : xs.length = 0
    case neg =>
      have HT := Lib.hid (show joinV c.kind c.by' c.reserve c.step (c.es.map Ent.d) (xa, xi, xc, xp, xs) = 200 from by unfold joinV; rw [if_neg HA.out, if_neg (fun hh => h hh.2.2.2.2)])
      have cb : ((xs.length : Int) != 0) = true := by simp; intro e; exact h (by rw [e]; rfl)
      clear h
      go_wp2_with ((with_reducible refine at_store_op ?_); refine wpList_store_lit 25 (w.heap.size + 1 + 1) 0 #[.int .i64 0, .int .i64 0, .int .i64 0, .int .i64 0, .int .i64 0, .int .i64 0, .int .u64 0, .int .u64 0, .int .u64 0, .int .i64 0, .slice none 0 0] (.agg #[.int .i64 0, .int .i64 0, .int .i64 0, .int .i64 0, .int .i64 0, .int .i64 0, .int .u64 0, .int .u64 0, .int .u64 0, .int .i64 0, .slice none 0 0]) R2.out szC (Nat.le_of_ble_eq_true rfl) rfl rfl ?_ ?_ ?_; exact rfl; exact rfl; intro w9 hp9)
      have hb9 := HB.out
      have HB9 := hp9.below hb9 hb9.size (by omega)
      exact bodyPost_ret (results_row_tmp3 Try.results12 _ _ (w.heap.size + 1 + 1) 25 _ _ _ rfl hp9.at' Try.underlying25 rfl szC) rfl (joinA_no 200 HT.out (by decide) rfl HB9)
    have cs : ((xs.length : Int) != 0) = false := by rw [h]; rfl
    have HJ := Lib.hid (show joinV c.kind c.by' c.reserve c.step (c.es.map Ent.d) (xa, xi, xc, xp, xs) = if lowV c.kind c.reserve c.step (c.es.map Ent.d) xc = true then 210 else if c.kind = 3 ∧ hasD ((c.es.map Ent.d).drop 1) xa = true then 236 else if c.kind = 3 ∧ 16 ≤ (c.es.map Ent.d).length then 232 else 0 by
      unfold joinV; rw [if_neg HA.out, if_pos ⟨by exact .inl HK2.out, by rw [List.length_map]; omega, Hxi.out, Hxp.out, h⟩])
    clear h
    go_wp2_with fail
    refine (HKL.out _ HB.out).mono ?_
    rintro r1 w1 ⟨rfl, hb⟩
    have HB1 := Lib.hid (HB.out.trans (hb.mono HB.out.size))
    have Q0 := Lib.hid (row_kept R0.out hb)
    have Q1 := Lib.hid (row_kept R1.out hb)
    have Q2 := Lib.hid (row_kept R2.out hb)
    have Q3 := Lib.hid (row_kept R3.out hb)
    clear hb p0 p1 p2 p3 p4 p5 p6 p7 p8 p9 p10 q0 q1 q2 q3 q4 z0 z1 z2 z3 z4 z5 z6 z7 z8 z9 z10 HB R0 R1 R2 R3
    obtain ⟨p0, p1, p2, p3, p4, p5, p6, p7, p8, p9, p10⟩ := cells11 Q0.out
    obtain ⟨q0, q1, q2, q3, q4⟩ := cells5 Q1.out
    obtain ⟨z0, z1, z2, z3, z4, z5, z6, z7, z8, z9, z10⟩ := cells11 Q3.out
    by_cases h : lowV c.kind c.reserve c.step (c.es.map Ent.d) xc = true
    case pos =>
      have HT := Lib.hid (show joinV c.kind c.by' c.reserve c.step (c.es.map Ent.d) (xa, xi, xc, xp, xs) = 210 from HJ.out.trans (if_pos h))
      rw [h]
      clear h
      go_wp2_with ((with_reducible refine at_store_op ?_); refine wpList_store_lit 25 (w.heap.size + 1 + 1) 0 #[.int .i64 0, .int .i64 0, .int .i64 0, .int .i64 0, .int .i64 0, .int .i64 0, .int .u64 0, .int .u64 0, .int .u64 0, .int .i64 0, .slice none 0 0] (.agg #[.int .i64 0, .int .i64 0, .int .i64 0, .int .i64 0, .int .i64 0, .int .i64 0, .int .u64 0, .int .u64 0, .int .u64 0, .int .i64 0, .slice none 0 0]) Q2.out szC (Nat.le_of_ble_eq_true rfl) rfl rfl ?_ ?_ ?_; exact rfl; exact rfl; intro w9 hp9)
      have hb9 := HB1.out
      have HB9 := hp9.below hb9 hb9.size (by omega)
      exact bodyPost_ret (results_row_tmp3 Try.results12 _ _ (w.heap.size + 1 + 1) 25 _ _ _ rfl hp9.at' Try.underlying25 rfl szC) rfl (joinA_no 210 HT.out (by decide) rfl HB9)
    have HJ2 := Lib.hid (HJ.out.trans (if_neg h))
    have hlv : lowV c.kind c.reserve c.step (c.es.map Ent.d) xc = false := by simpa using h
    rw [hlv]
    clear h HJ hlv
    have HJ4 := Lib.hid (HJ2.out.trans ((if_neg (fun hh => by have := HK2.out; omega)).trans (if_neg (fun hh => by have := HK2.out; omega))))
    by_cases hn : 1 < c.es.length
    · have t1 : decide ((1 : Int) < (c.es.length : Int)) = true := by simp; omega
      have t2 : decide ((c.es.length : Int) > 1) = true := by simp; omega
      have t3 : 1 < c.es.length := hn
      go_wp2
      go_loopw [10] (fun i wr => i = .int .i64 1 ∧ wr = w1) (fun _ _ => 0)
      case atStart => exact ⟨rfl, rfl⟩
      case round =>
        obtain ⟨rfl, rfl⟩ := hrel
        have HT := Lib.hid (show joinV c.kind c.by' c.reserve c.step (c.es.map Ent.d) (xa, xi, xc, xp, xs) = 0 from HJ4.out)
        obtain ⟨ob, oo, hea, _⟩ := HC.out.ent 0 (by omega)
        have HEA := Lib.hid hea
        have HRC := Lib.hid (show wr.heap[w.heap.size]? = some (.cells #[.int .i64 c.num, .int .i64 c.kind, .int .i64 c.by', .int .i64 c.dl, .int .i64 c.to', .int .i64 c.want, .int .u64 c.price, .int .u64 c.reserve, .int .u64 c.step, .int .i64 c.of', .slice (some ⟨ob, oo, none⟩) c.es.length c.ec] 25) by have h := Q0.out; rw [hea] at h; exact h)
        obtain ⟨p0, p1, p2, p3, p4, p5, p6, p7, p8, p9, p10⟩ := cells11 HRC.out
        have HFE := Lib.hid (show ∀ V, Below w.heap.size w V → ∀ j (hj : j < c.es.length), V.cell? ⟨ob, oo + j * 5, none⟩ = some (.int .i64 c.es[j].acc) ∧ V.cell? ⟨ob, oo + j * 5 + 1, none⟩ = some (.int .i64 c.es[j].item) ∧ V.cell? ⟨ob, oo + j * 5 + 2, none⟩ = some (.int .u64 c.es[j].coins) ∧
    V.cell? ⟨ob, oo + j * 5 + 3, none⟩ = some (.int .u64 c.es[j].price) ∧ V.cell? ⟨ob, oo + j * 5 + 4, none⟩ = some (.slice c.es[j].wa c.es[j].ws.length c.es[j].wc) from fun V h j hj => by
  obtain ⟨_, _, he, f⟩ := (HC.out.kept h).ent j hj
  rw [HEA.out] at he
  cases he
  exact f)
        clear hea
        obtain ⟨g, hg⟩ : ∃ g, g = wr.heap.size := ⟨_, rfl⟩
        obtain ⟨w5, hw5⟩ : ∃ V, V = wr.alloc (.cells #[.int .i64 c.num, .int .i64 c.kind, .int .i64 c.by', .int .i64 c.dl, .int .i64 c.to', .int .i64 c.want, .int .u64 c.price, .int .u64 c.reserve, .int .u64 c.step, .int .i64 c.of', .slice none 0 0] 25) := ⟨_, rfl⟩
        have hlt3 := lt_row Q3.out
        have HI0 := Lib.hid (show JI w g (g + 1) (fun v => #[.int .i64 c.num, .int .i64 c.kind, .int .i64 c.by', .int .i64 c.dl, .int .i64 c.to', .int .i64 c.want, .int .u64 c.price, .int .u64 c.reserve, .int .u64 c.step, .int .i64 c.of', v]) 25 #[.int .i64 c.num, .int .i64 c.kind, .int .i64 c.by', .int .i64 c.dl, .int .i64 c.to', .int .i64 c.want, .int .u64 c.price, .int .u64 c.reserve, .int .u64 c.step, .int .i64 c.of', .slice (some ⟨ob, oo, none⟩) c.es.length c.ec] #[.int .i64 xa, .int .i64 xi, .int .u64 xc, .int .u64 xp, .slice xw xs.length xk] #[.int .i64 0, .int .i64 0, .int .i64 0, .int .i64 0, .int .i64 0, .int .i64 0, .int .u64 0, .int .u64 0, .int .u64 0, .int .i64 0, .slice none 0 0] w5 (.slice none 0 0) (.slice none 0 0) [] [] by
  rw [hw5]
  exact ⟨HB1.out.alloc HB1.out.size _, alloc_at (by rw [hg]), alloc_old HRC.out, alloc_old Q1.out, alloc_old Q2.out, World.ownsRow_nil _ _ _ _, (fun x hx => by cases hx), World.ownsRow_nil _ _ _ _, Nat.lt_succ_self _, by omega, by rw [hg]; simp⟩)
        obtain ⟨B, hBdef⟩ : ∃ B, B = g + 1 := ⟨_, rfl⟩
        rw [← hBdef] at HI0
        have HW5 := Lib.hid hw5
        have pA1 := fun X => below_cell ((Below.refl wr.heap.size wr).alloc (Nat.le_refl _) X) p1
        have pA10 := fun X => below_cell ((Below.refl wr.heap.size wr).alloc (Nat.le_refl _) X) p10
        have HBX := Lib.hid (show ∀ X, Below w.heap.size w (wr.alloc X) from fun X => HB1.out.alloc HB1.out.size X)
        have HGG := Lib.hid hg
        clear hw5 hBdef hlt3 hg HRC HB1 Q0 Q1 Q2 Q3 HKL
        have i1 : (c.es.length : Int) - 1 < (c.es.length : Int) := by omega
        have i2 : (0 : Int) ≤ (c.es.length : Int) - 1 := by omega
        have e1 : ((c.es.length : Int) - 1).toNat = c.es.length - 1 := by omega
        have HFX := fun X => HFE.out _ (HBX.out X) (c.es.length - 1) (by omega)
        have HBK := Lib.hid (Ent.back_d c.es (c.es.length - 1) (by omega))
        have HK41 := Lib.hid (fun V => rback_any (c.es[c.es.length - 1]'(by omega)) V)
        generalize c.es[c.es.length - 1]'(by omega) = x at *
        obtain ⟨qa, qi, qc, qp, qw, qk, qs⟩ := x
        unfold Ent.agg at HK41
        simp only at HK41 HFX
        have f0 := fun X => (HFX X).1
        have f1 := fun X => (HFX X).2.1
        have f2 := fun X => (HFX X).2.2.1
        have f3 := fun X => (HFX X).2.2.2.1
        have f4 := fun X => (HFX X).2.2.2.2
        clear HFX
        go_wp2_with fail
        rw [← HW5.out, ← HGG.out]
        refine (HK41.out _).mono ?_
        rintro e1' w6 ⟨⟨ga, gcp, rfl, hog⟩, hb6⟩
        have HJG := Lib.hid (show joinG c.kind (c.es.map Ent.d) = Ent.back ⟨qa, qi, qc, qp, qw, qk, qs⟩ by
  unfold joinG
  rw [if_pos (by rw [List.length_map]; exact ⟨HK2.out, by omega⟩), List.length_map]
  exact HBK.out)
        have HI1 := Lib.hid (show JI w g B (fun v => #[.int .i64 c.num, .int .i64 c.kind, .int .i64 c.by', .int .i64 c.dl, .int .i64 c.to', .int .i64 c.want, .int .u64 c.price, .int .u64 c.reserve, .int .u64 c.step, .int .i64 c.of', v]) 25 #[.int .i64 c.num, .int .i64 c.kind, .int .i64 c.by', .int .i64 c.dl, .int .i64 c.to', .int .i64 c.want, .int .u64 c.price, .int .u64 c.reserve, .int .u64 c.step, .int .i64 c.of', .slice (some ⟨ob, oo, none⟩) c.es.length c.ec] #[.int .i64 xa, .int .i64 xi, .int .u64 xc, .int .u64 xp, .slice xw xs.length xk] #[.int .i64 0, .int .i64 0, .int .i64 0, .int .i64 0, .int .i64 0, .int .i64 0, .int .u64 0, .int .u64 0, .int .u64 0, .int .i64 0, .slice none 0 0] w6 (.slice none 0 0) (.slice ga (Ent.back ⟨qa, qi, qc, qp, qw, qk, qs⟩).length gcp) [] (joinG c.kind (c.es.map Ent.d)) by
  rw [HJG.out]
  exact (HI0.out.kept hb6).give (owns_base hog HI0.out.sz))
        obtain ⟨gv, hgv⟩ : ∃ gv, gv = Value.slice ga (Ent.back ⟨qa, qi, qc, qp, qw, qk, qs⟩).length gcp := ⟨_, rfl⟩
        rw [← hgv] at HI1 ⊢
        clear hgv hog hb6 f0 f1 f2 f3 f4 i1 i2 e1 HK41 HBK HJG HI0 pA1 pA10 HW5 HBX p0 p1 p2 p3 p4 p5 p6 p7 p8 p9 p10
        obtain ⟨p0, p1, p2, p3, p4, p5, p6, p7, p8, p9, p10⟩ := cells11 HI1.out.rc
        go_wp2
        go_loopw [14] (fun i wr => ∃ (j : Nat) (ev : Value) (ls : List Ent), j ≤ (c.es.length - 1) ∧ i = .int .i64 j ∧ ls.length = j ∧ ls.map Ent.d = (c.es.map Ent.d).take j ∧ JI w g B (fun v => #[.int .i64 c.num, .int .i64 c.kind, .int .i64 c.by', .int .i64 c.dl, .int .i64 c.to', .int .i64 c.want, .int .u64 c.price, .int .u64 c.reserve, .int .u64 c.step, .int .i64 c.of', v]) 25 #[.int .i64 c.num, .int .i64 c.kind, .int .i64 c.by', .int .i64 c.dl, .int .i64 c.to', .int .i64 c.want, .int .u64 c.price, .int .u64 c.reserve, .int .u64 c.step, .int .i64 c.of', .slice (some ⟨ob, oo, none⟩) c.es.length c.ec] #[.int .i64 xa, .int .i64 xi, .int .u64 xc, .int .u64 xp, .slice xw xs.length xk] #[.int .i64 0, .int .i64 0, .int .i64 0, .int .i64 0, .int .i64 0, .int .i64 0, .int .u64 0, .int .u64 0, .int .u64 0, .int .i64 0, .slice none 0 0] wr ev gv ls (joinG c.kind (c.es.map Ent.d))) (fun i _ => (c.es.length - 1) - (intOf i).toNat)
        case atStart => exact ⟨0, _, [], by omega, rfl, rfl, rfl, HI1.out⟩
        case round =>
          clear HI1
          obtain ⟨j, ev, ls, hj, rfl, hll, hld, hi⟩ := hrel
          have HI := Lib.hid hi
          have HLL := Lib.hid hll
          have HLD := Lib.hid hld
          have hls : ls.length ≤ 2513169434843 := by omega
          have LB1 := Lib.hid (show ls.length + 1 ≤ maxLen by unfold maxLen; omega)
          have LB2 := Lib.hid (show (ls.length + 1) * 56 ≤ 140737488355328 by omega)
          clear hi hll hld
          by_cases hlt : j < (c.es.length - 1)
          · have t0 : decide ((j : Int) < ((c.es.length : Int) - 1)) = true := by simp; omega
            have i1 : (j : Int) < (c.es.length : Int) := by omega
            have hjn : j < c.es.length := by omega
            have HFX := Lib.hid (fun V (h : Below w.heap.size w V) => HFE.out V h j hjn)
            have HXD := Lib.hid (show (c.es.map Ent.d).take (j + 1) = (c.es.map Ent.d).take j ++ [c.es[j].d] by rw [List.take_succ_eq_append_getElem (by simpa using hjn)]; simp)
            have HK42 := Lib.hid (fun V (h : Below w.heap.size w V) => plain_any c.es[j] V ((HC.out.ents _ (List.getElem_mem hjn)).kept h))
            generalize c.es[j] = x at *
            obtain ⟨qa, qi, qc, qp, qw, qk, qs⟩ := x
            unfold Ent.agg at HK42
            simp only at HK42 HFX
            go_wp2
            have hdr : Below wr.heap.size wr wr.drew := (Qt.drewN wr 1).below _
            have hId := HI.out.kept hdr
            refine wp_region_front 7 10 (fun V => Below w.heap.size w V ∧ V.heap[g]? = some (.cells #[.int .i64 c.num, .int .i64 c.kind, .int .i64 c.by', .int .i64 c.dl, .int .i64 c.to', .int .i64 c.want, .int .u64 c.price, .int .u64 c.reserve, .int .u64 c.step, .int .i64 c.of', ev] 25) ∧ V.heap[w.heap.size]? = some (.cells #[.int .i64 c.num, .int .i64 c.kind, .int .i64 c.by', .int .i64 c.dl, .int .i64 c.to', .int .i64 c.want, .int .u64 c.price, .int .u64 c.reserve, .int .u64 c.step, .int .i64 c.of', .slice (some ⟨ob, oo, none⟩) c.es.length c.ec] 25) ∧ V.heap[w.heap.size + 1]? = some (.cells #[.int .i64 xa, .int .i64 xi, .int .u64 xc, .int .u64 xp, .slice xw xs.length xk] 33)) (by kernel_rfl) (by kernel_rfl) ⟨hId.bel, hId.rg, hId.rc, hId.re⟩ ?_
            simp only [List.take_succ_cons, List.take_zero, List.drop_succ_cons, List.drop_zero]
            iterate 7
              apply wpPure_cons
              · rfl
              · intro Wx hw
                have k10 : Wx.cell? ⟨g, 10, none⟩ = some ev := by rw [cell_of_row _ _ _ _ _ _ hw.2.1]; rfl
                have zc := (cells11 hw.2.2.1).2.2.2.2.2.2.2.2.2.2
                obtain ⟨f0, f1, f2, f3, f4⟩ := HFX.out _ hw.1
                go_simp
                exact ⟨rfl, rfl⟩
              try simp only [Act.put, List.setIfInBounds_toArray, List.set_cons_zero, List.set_cons_succ]
            refine wpPure_nil (wpLoud_cons (by rfl) ?_)
            go_simp
            show Calls _ _ _ _ _
            refine (HK42.out _ hId.bel).mono ?_
            rintro e1' w6' ⟨⟨ya, yi, yc, yp, yw, yk, ys⟩, rfl, hyd, hnew, hb6'⟩
            have hb0 := hdr.trans hb6'
            have hI6 := HI.out.kept hb0
            refine ⟨_, rfl, ⟨hI6.bel, hI6.rg, hI6.rc, hI6.re⟩, wpLoud_cons (by rfl) ?_⟩
            try simp only [Act.put, List.setIfInBounds_toArray, List.set_cons_zero, List.set_cons_succ]
            go_simp
            have hI6a := hI6.kept ((Below.refl _ _).alloc (Nat.le_refl _) (.cells #[.int .i64 ya, .int .i64 yi, .int .u64 yc, .int .u64 yp, .slice yw ys.length yk] 33))
            refine ⟨⟨hI6a.bel, hI6a.rg, hI6a.rc, hI6a.re⟩, wpLoud_cons (by rfl) ?_⟩
            try simp only [Act.put, List.setIfInBounds_toArray, List.set_cons_zero, List.set_cons_succ]
            refine loud_append _ _ 23 (by rfl) B 33 (.agg #[.int .i64 0, .int .i64 0, .int .u64 0, .int .u64 0, .slice none 0 0]) 5 56 Try.underlying23 infoE (by rfl) (by decide) ev _ _ (by rfl) hI6a.oe ⟨w6'.heap.size, 0, none⟩ 1 1 (eFlat [⟨ya, yi, yc, yp, yw, yk, ys⟩]) (by rfl) (by rfl) (sl_new _ _ _ _) (oneCell_eFlat _) LB1.out LB2.out hI6a.sz ?_
            intro v2 w7 ho7 hg7
            obtain ⟨ad2, cp2, rfl, _⟩ := owns_slice ho7
            obtain ⟨h7b, h7g, h7c, h7e⟩ := hI6a.past hg7
            have g7 : w7.heap[g]? = some (.cells #[.int .i64 c.num, .int .i64 c.kind, .int .i64 c.by', .int .i64 c.dl, .int .i64 c.to', .int .i64 c.want, .int .u64 c.price, .int .u64 c.reserve, .int .u64 c.step, .int .i64 c.of', ev] 25) := h7g
            refine ⟨⟨h7b, h7g, h7c, h7e⟩, wpLoud_nil ?_⟩
            try simp only [Act.put, List.setIfInBounds_toArray, List.set_cons_zero, List.set_cons_succ]
            go_wp2_with ((with_reducible refine at_store_op ?_); refine wpList_store_lit 23 g 10 #[.int .i64 c.num, .int .i64 c.kind, .int .i64 c.by', .int .i64 c.dl, .int .i64 c.to', .int .i64 c.want, .int .u64 c.price, .int .u64 c.reserve, .int .u64 c.step, .int .i64 c.of', .slice ad2 (ls.length + 1) cp2] (.slice ad2 (ls.length + 1) cp2) g7 szEs (Nat.le_of_ble_eq_true rfl) rfl rfl ?_ ?_ ?_; exact rfl; exact rfl)
            intro w8 hp8
            have HF := Lib.hid (HI.out.push hb0 hnew hg7 ho7 hp8)
            have HYD := Lib.hid hyd
            clear hb0 hnew hg7 ho7 hp8 hyd hI6 hI6a hb6' hdr hId g7 h7b h7g h7c h7e
            go_wp2
            go_roundw
            case rel => exact ⟨j + 1, _, ls ++ [⟨ya, yi, yc, yp, yw, yk, ys⟩], by omega, by go_num, by rw [List.length_append, HLL.out]; rfl, by rw [HXD.out, List.map_append, HLD.out, List.map_cons, List.map_nil, HYD.out], HF.out⟩
            case measure => simp [intOf]; omega
          · have t0 : decide ((j : Int) < ((c.es.length : Int) - 1)) = false := by simp; omega
            have HJN := Lib.hid (show j = (c.es.length - 1) by omega)
            have HK42e := Lib.hid (fun V (h : Below w.heap.size w V) => plain_any ⟨xa, xi, xc, xp, xw, xk, xs⟩ V (HE.out.kept h))
            unfold Ent.agg at HK42e
            simp only at HK42e
            go_wp2
            have hdr : Below wr.heap.size wr wr.drew := (Qt.drewN wr 1).below _
            have hId := HI.out.kept hdr
            refine wp_region_front 3 6 (fun V => Below w.heap.size w V ∧ V.heap[g]? = some (.cells #[.int .i64 c.num, .int .i64 c.kind, .int .i64 c.by', .int .i64 c.dl, .int .i64 c.to', .int .i64 c.want, .int .u64 c.price, .int .u64 c.reserve, .int .u64 c.step, .int .i64 c.of', ev] 25) ∧ V.heap[w.heap.size]? = some (.cells #[.int .i64 c.num, .int .i64 c.kind, .int .i64 c.by', .int .i64 c.dl, .int .i64 c.to', .int .i64 c.want, .int .u64 c.price, .int .u64 c.reserve, .int .u64 c.step, .int .i64 c.of', .slice (some ⟨ob, oo, none⟩) c.es.length c.ec] 25) ∧ V.heap[w.heap.size + 1]? = some (.cells #[.int .i64 xa, .int .i64 xi, .int .u64 xc, .int .u64 xp, .slice xw xs.length xk] 33)) (by kernel_rfl) (by kernel_rfl) ⟨hId.bel, hId.rg, hId.rc, hId.re⟩ ?_
            simp only [List.take_succ_cons, List.take_zero, List.drop_succ_cons, List.drop_zero]
            iterate 3
              apply wpPure_cons
              · rfl
              · intro Wx hw
                have k10 : Wx.cell? ⟨g, 10, none⟩ = some ev := by rw [cell_of_row _ _ _ _ _ _ hw.2.1]; rfl
                obtain ⟨u0, u1, u2, u3, u4⟩ := cells5 hw.2.2.2
                go_simp
                exact ⟨rfl, rfl⟩
              try simp only [Act.put, List.setIfInBounds_toArray, List.set_cons_zero, List.set_cons_succ]
            refine wpPure_nil (wpLoud_cons (by rfl) ?_)
            go_simp
            show Calls _ _ _ _ _
            refine (HK42e.out _ hId.bel).mono ?_
            rintro e1' w6' ⟨⟨ya, yi, yc, yp, yw, yk, ys⟩, rfl, hyd, hnew, hb6'⟩
            have hb0 := hdr.trans hb6'
            have hI6 := HI.out.kept hb0
            refine ⟨_, rfl, ⟨hI6.bel, hI6.rg, hI6.rc, hI6.re⟩, wpLoud_cons (by rfl) ?_⟩
            try simp only [Act.put, List.setIfInBounds_toArray, List.set_cons_zero, List.set_cons_succ]
            go_simp
            have hI6a := hI6.kept ((Below.refl _ _).alloc (Nat.le_refl _) (.cells #[.int .i64 ya, .int .i64 yi, .int .u64 yc, .int .u64 yp, .slice yw ys.length yk] 33))
            refine ⟨⟨hI6a.bel, hI6a.rg, hI6a.rc, hI6a.re⟩, wpLoud_cons (by rfl) ?_⟩
            try simp only [Act.put, List.setIfInBounds_toArray, List.set_cons_zero, List.set_cons_succ]
            refine loud_append _ _ 23 (by rfl) B 33 (.agg #[.int .i64 0, .int .i64 0, .int .u64 0, .int .u64 0, .slice none 0 0]) 5 56 Try.underlying23 infoE (by rfl) (by decide) ev _ _ (by rfl) hI6a.oe ⟨w6'.heap.size, 0, none⟩ 1 1 (eFlat [⟨ya, yi, yc, yp, yw, yk, ys⟩]) (by rfl) (by rfl) (sl_new _ _ _ _) (oneCell_eFlat _) LB1.out LB2.out hI6a.sz ?_
            intro v2 w7 ho7 hg7
            obtain ⟨ad2, cp2, rfl, _⟩ := owns_slice ho7
            obtain ⟨h7b, h7g, h7c, h7e⟩ := hI6a.past hg7
            have g7 : w7.heap[g]? = some (.cells #[.int .i64 c.num, .int .i64 c.kind, .int .i64 c.by', .int .i64 c.dl, .int .i64 c.to', .int .i64 c.want, .int .u64 c.price, .int .u64 c.reserve, .int .u64 c.step, .int .i64 c.of', ev] 25) := h7g
            refine ⟨⟨h7b, h7g, h7c, h7e⟩, wpLoud_nil ?_⟩
            try simp only [Act.put, List.setIfInBounds_toArray, List.set_cons_zero, List.set_cons_succ]
            go_wp2_with ((with_reducible refine at_store_op ?_); refine wpList_store_lit 23 g 10 #[.int .i64 c.num, .int .i64 c.kind, .int .i64 c.by', .int .i64 c.dl, .int .i64 c.to', .int .i64 c.want, .int .u64 c.price, .int .u64 c.reserve, .int .u64 c.step, .int .i64 c.of', .slice ad2 (ls.length + 1) cp2] (.slice ad2 (ls.length + 1) cp2) g7 szEs (Nat.le_of_ble_eq_true rfl) rfl rfl ?_ ?_ ?_; exact rfl; exact rfl)
            intro w8 hp8
            have HF := Lib.hid (HI.out.push hb0 hnew hg7 ho7 hp8)
            have HYD := Lib.hid hyd
            clear hb0 hnew hg7 ho7 hp8 hyd hI6 hI6a hb6' hdr hId g7 h7b h7g h7c h7e
            obtain ⟨ga', gcp', hgs, _⟩ := owns_slice HF.out.og
            have n0 : w8.cell? ⟨g, 0, none⟩ = some (.int .i64 c.num) := by rw [cell_of_row _ _ _ _ _ _ HF.out.rg]; rfl
            have n1 : w8.cell? ⟨g, 1, none⟩ = some (.int .i64 c.kind) := by rw [cell_of_row _ _ _ _ _ _ HF.out.rg]; rfl
            have n2 : w8.cell? ⟨g, 2, none⟩ = some (.int .i64 c.by') := by rw [cell_of_row _ _ _ _ _ _ HF.out.rg]; rfl
            have n3 : w8.cell? ⟨g, 3, none⟩ = some (.int .i64 c.dl) := by rw [cell_of_row _ _ _ _ _ _ HF.out.rg]; rfl
            have n4 : w8.cell? ⟨g, 4, none⟩ = some (.int .i64 c.to') := by rw [cell_of_row _ _ _ _ _ _ HF.out.rg]; rfl
            have n5 : w8.cell? ⟨g, 5, none⟩ = some (.int .i64 c.want) := by rw [cell_of_row _ _ _ _ _ _ HF.out.rg]; rfl
            have n6 : w8.cell? ⟨g, 6, none⟩ = some (.int .u64 c.price) := by rw [cell_of_row _ _ _ _ _ _ HF.out.rg]; rfl
            have n7 : w8.cell? ⟨g, 7, none⟩ = some (.int .u64 c.reserve) := by rw [cell_of_row _ _ _ _ _ _ HF.out.rg]; rfl
            have n8 : w8.cell? ⟨g, 8, none⟩ = some (.int .u64 c.step) := by rw [cell_of_row _ _ _ _ _ _ HF.out.rg]; rfl
            have n9 : w8.cell? ⟨g, 9, none⟩ = some (.int .i64 c.of') := by rw [cell_of_row _ _ _ _ _ _ HF.out.rg]; rfl
            have n10 : w8.cell? ⟨g, 10, none⟩ = some (.slice ad2 (ls.length + 1) cp2) := by rw [cell_of_row _ _ _ _ _ _ HF.out.rg]; rfl
            have HGS := Lib.hid hgs
            clear hgs
            go_wp2_with ((with_reducible refine at_store_op ?_); refine wpList_store_lit 25 (w.heap.size + 1 + 1) 0 #[.int .i64 c.num, .int .i64 c.kind, .int .i64 c.by', .int .i64 c.dl, .int .i64 c.to', .int .i64 c.want, .int .u64 c.price, .int .u64 c.reserve, .int .u64 c.step, .int .i64 c.of', .slice ad2 (ls.length + 1) cp2] (.agg #[.int .i64 c.num, .int .i64 c.kind, .int .i64 c.by', .int .i64 c.dl, .int .i64 c.to', .int .i64 c.want, .int .u64 c.price, .int .u64 c.reserve, .int .u64 c.step, .int .i64 c.of', .slice ad2 (ls.length + 1) cp2]) HF.out.rz szC (Nat.le_of_ble_eq_true rfl) rfl rfl ?_ ?_ ?_; exact rfl; exact rfl; intro w9 hp9)
            obtain ⟨hB9, hO9, hN9, hG9⟩ := HF.out.done hp9
            have hkd : stays c.kind (c.es.map Ent.d) = j := by
              rw [HJN.out]
              unfold stays
              rw [if_pos (by rw [List.length_map]; exact ⟨HK2.out, by omega⟩), List.length_map]
            have hmx : (ls ++ [(⟨ya, yi, yc, yp, yw, yk, ys⟩ : Ent)]).length ≤ 2513169434843 := by
              have h := HLL.out
              have h2 := HJN.out
              rw [List.length_append, h]
              show j + 1 ≤ _
              omega
            rw [HGS.out] at hG9
            refine bodyPost_ret (results_row_tmp3 Try.results12 _ _ (w.heap.size + 1 + 1) 25 _ _ _ rfl hp9.at' Try.underlying25 rfl szC) rfl
              ⟨⟨c.num, c.kind, c.by', c.dl, c.to', c.want, c.price, c.reserve, c.step, c.of', ad2, cp2, ls ++ [⟨ya, yi, yc, yp, yw, yk, ys⟩]⟩, ga', gcp', joinG c.kind (c.es.map Ent.d), ?_, hB9, ⟨by simpa only [List.length_append, List.length_cons, List.length_nil, Nat.zero_add] using hO9, hN9, hmx⟩, hG9, ?_, ?_⟩
            · show _ = Ending.returned (.tuple #[_, _, _, .int .i64 (joinV c.kind c.by' c.reserve c.step (c.es.map Ent.d) (xa, xi, xc, xp, xs))])
              rw [HT.out, ← HGS.out]
              unfold Con.agg
              simp only [List.length_append, List.length_cons, List.length_nil, Nat.zero_add]
              rfl
            · show _ = if joinV c.kind c.by' c.reserve c.step (c.es.map Ent.d) (xa, xi, xc, xp, xs) = 0 then _ else _
              rw [if_pos HT.out]
            · show _ = if joinV c.kind c.by' c.reserve c.step (c.es.map Ent.d) (xa, xi, xc, xp, xs) = 0 then _ else _
              rw [if_pos HT.out]
              show (_, _, (ls ++ [_]).map Ent.d) = (_, _, _ ++ [_])
              rw [List.map_append, HLD.out, hkd, List.map_cons, List.map_nil, HYD.out]
    · have t1 : decide ((1 : Int) < (c.es.length : Int)) = false := by simp; omega
      have t2 : decide ((c.es.length : Int) > 1) = false := by simp; omega
      have t3 : ¬ 1 < c.es.length := hn
      go_wp2
      go_loopw [10] (fun i wr => i = .int .i64 1 ∧ wr = w1) (fun _ _ => 0)
      case atStart => exact ⟨rfl, rfl⟩
      case round =>
        obtain ⟨rfl, rfl⟩ := hrel
        have HT := Lib.hid (show joinV c.kind c.by' c.reserve c.step (c.es.map Ent.d) (xa, xi, xc, xp, xs) = 0 from HJ4.out)
        obtain ⟨ob, oo, hea, _⟩ := HC.out.ent 0 (by omega)
        have HEA := Lib.hid hea
        have HRC := Lib.hid (show wr.heap[w.heap.size]? = some (.cells #[.int .i64 c.num, .int .i64 c.kind, .int .i64 c.by', .int .i64 c.dl, .int .i64 c.to', .int .i64 c.want, .int .u64 c.price, .int .u64 c.reserve, .int .u64 c.step, .int .i64 c.of', .slice (some ⟨ob, oo, none⟩) c.es.length c.ec] 25) by have h := Q0.out; rw [hea] at h; exact h)
        obtain ⟨p0, p1, p2, p3, p4, p5, p6, p7, p8, p9, p10⟩ := cells11 HRC.out
        have HFE := Lib.hid (show ∀ V, Below w.heap.size w V → ∀ j (hj : j < c.es.length), V.cell? ⟨ob, oo + j * 5, none⟩ = some (.int .i64 c.es[j].acc) ∧ V.cell? ⟨ob, oo + j * 5 + 1, none⟩ = some (.int .i64 c.es[j].item) ∧ V.cell? ⟨ob, oo + j * 5 + 2, none⟩ = some (.int .u64 c.es[j].coins) ∧
    V.cell? ⟨ob, oo + j * 5 + 3, none⟩ = some (.int .u64 c.es[j].price) ∧ V.cell? ⟨ob, oo + j * 5 + 4, none⟩ = some (.slice c.es[j].wa c.es[j].ws.length c.es[j].wc) from fun V h j hj => by
  obtain ⟨_, _, he, f⟩ := (HC.out.kept h).ent j hj
  rw [HEA.out] at he
  cases he
  exact f)
        clear hea
        obtain ⟨g, hg⟩ : ∃ g, g = wr.heap.size := ⟨_, rfl⟩
        obtain ⟨w5, hw5⟩ : ∃ V, V = wr.alloc (.cells #[.int .i64 c.num, .int .i64 c.kind, .int .i64 c.by', .int .i64 c.dl, .int .i64 c.to', .int .i64 c.want, .int .u64 c.price, .int .u64 c.reserve, .int .u64 c.step, .int .i64 c.of', .slice none 0 0] 25) := ⟨_, rfl⟩
        have hlt3 := lt_row Q3.out
        have HI0 := Lib.hid (show JI w g (g + 1) (fun v => #[.int .i64 c.num, .int .i64 c.kind, .int .i64 c.by', .int .i64 c.dl, .int .i64 c.to', .int .i64 c.want, .int .u64 c.price, .int .u64 c.reserve, .int .u64 c.step, .int .i64 c.of', v]) 25 #[.int .i64 c.num, .int .i64 c.kind, .int .i64 c.by', .int .i64 c.dl, .int .i64 c.to', .int .i64 c.want, .int .u64 c.price, .int .u64 c.reserve, .int .u64 c.step, .int .i64 c.of', .slice (some ⟨ob, oo, none⟩) c.es.length c.ec] #[.int .i64 xa, .int .i64 xi, .int .u64 xc, .int .u64 xp, .slice xw xs.length xk] #[.int .i64 0, .int .i64 0, .int .i64 0, .int .i64 0, .int .i64 0, .int .i64 0, .int .u64 0, .int .u64 0, .int .u64 0, .int .i64 0, .slice none 0 0] w5 (.slice none 0 0) (.slice none 0 0) [] [] by
  rw [hw5]
  exact ⟨HB1.out.alloc HB1.out.size _, alloc_at (by rw [hg]), alloc_old HRC.out, alloc_old Q1.out, alloc_old Q2.out, World.ownsRow_nil _ _ _ _, (fun x hx => by cases hx), World.ownsRow_nil _ _ _ _, Nat.lt_succ_self _, by omega, by rw [hg]; simp⟩)
        obtain ⟨B, hBdef⟩ : ∃ B, B = g + 1 := ⟨_, rfl⟩
        rw [← hBdef] at HI0
        have HW5 := Lib.hid hw5
        have pA1 := fun X => below_cell ((Below.refl wr.heap.size wr).alloc (Nat.le_refl _) X) p1
        have pA10 := fun X => below_cell ((Below.refl wr.heap.size wr).alloc (Nat.le_refl _) X) p10
        have HBX := Lib.hid (show ∀ X, Below w.heap.size w (wr.alloc X) from fun X => HB1.out.alloc HB1.out.size X)
        have HGG := Lib.hid hg
        clear hw5 hBdef hlt3 hg HRC HB1 Q0 Q1 Q2 Q3 HKL
        have HJG := Lib.hid (show joinG c.kind (c.es.map Ent.d) = [] by unfold joinG; rw [if_neg (by rw [List.length_map]; omega)])
        go_wp2
        rw [← HW5.out, ← HGG.out]
        obtain ⟨w6, hw6⟩ : ∃ W, W = w5 := ⟨_, rfl⟩
        rw [← hw6] at HI0 ⊢
        clear hw6 HW5 pA1 pA10 HBX
        have HI1 := Lib.hid (show JI w g B (fun v => #[.int .i64 c.num, .int .i64 c.kind, .int .i64 c.by', .int .i64 c.dl, .int .i64 c.to', .int .i64 c.want, .int .u64 c.price, .int .u64 c.reserve, .int .u64 c.step, .int .i64 c.of', v]) 25 #[.int .i64 c.num, .int .i64 c.kind, .int .i64 c.by', .int .i64 c.dl, .int .i64 c.to', .int .i64 c.want, .int .u64 c.price, .int .u64 c.reserve, .int .u64 c.step, .int .i64 c.of', .slice (some ⟨ob, oo, none⟩) c.es.length c.ec] #[.int .i64 xa, .int .i64 xi, .int .u64 xc, .int .u64 xp, .slice xw xs.length xk] #[.int .i64 0, .int .i64 0, .int .i64 0, .int .i64 0, .int .i64 0, .int .i64 0, .int .u64 0, .int .u64 0, .int .u64 0, .int .i64 0, .slice none 0 0] w6 (.slice none 0 0) (.slice none 0 0) [] (joinG c.kind (c.es.map Ent.d)) by rw [HJG.out]; exact HI0.out)
        obtain ⟨gv, hgv⟩ : ∃ gv, gv = Value.slice none 0 0 := ⟨_, rfl⟩
        have HGV := Lib.hid hgv
        go_loopw [14] (fun i wr => ∃ (j : Nat) (ev : Value) (ls : List Ent), j ≤ c.es.length ∧ i = .int .i64 j ∧ ls.length = j ∧ ls.map Ent.d = (c.es.map Ent.d).take j ∧ JI w g B (fun v => #[.int .i64 c.num, .int .i64 c.kind, .int .i64 c.by', .int .i64 c.dl, .int .i64 c.to', .int .i64 c.want, .int .u64 c.price, .int .u64 c.reserve, .int .u64 c.step, .int .i64 c.of', v]) 25 #[.int .i64 c.num, .int .i64 c.kind, .int .i64 c.by', .int .i64 c.dl, .int .i64 c.to', .int .i64 c.want, .int .u64 c.price, .int .u64 c.reserve, .int .u64 c.step, .int .i64 c.of', .slice (some ⟨ob, oo, none⟩) c.es.length c.ec] #[.int .i64 xa, .int .i64 xi, .int .u64 xc, .int .u64 xp, .slice xw xs.length xk] #[.int .i64 0, .int .i64 0, .int .i64 0, .int .i64 0, .int .i64 0, .int .i64 0, .int .u64 0, .int .u64 0, .int .u64 0, .int .i64 0, .slice none 0 0] wr ev (.slice none 0 0) ls (joinG c.kind (c.es.map Ent.d))) (fun i _ => c.es.length - (intOf i).toNat)
        case atStart => exact ⟨0, _, [], by omega, rfl, rfl, rfl, HI1.out⟩
        case round =>
          clear HI1
          obtain ⟨j, ev, ls, hj, rfl, hll, hld, hi⟩ := hrel
          have HI := Lib.hid hi
          have HLL := Lib.hid hll
          have HLD := Lib.hid hld
          have hls : ls.length ≤ 2513169434843 := by omega
          have LB1 := Lib.hid (show ls.length + 1 ≤ maxLen by unfold maxLen; omega)
          have LB2 := Lib.hid (show (ls.length + 1) * 56 ≤ 140737488355328 by omega)
          clear hi hll hld
          by_cases hlt : j < c.es.length
          · have t0 : decide ((j : Int) < (c.es.length : Int)) = true := by simp; omega
            have i1 : (j : Int) < (c.es.length : Int) := by omega
            have hjn : j < c.es.length := by omega
            have HFX := Lib.hid (fun V (h : Below w.heap.size w V) => HFE.out V h j hjn)
            have HXD := Lib.hid (show (c.es.map Ent.d).take (j + 1) = (c.es.map Ent.d).take j ++ [c.es[j].d] by rw [List.take_succ_eq_append_getElem (by simpa using hjn)]; simp)
            have HK42 := Lib.hid (fun V (h : Below w.heap.size w V) => plain_any c.es[j] V ((HC.out.ents _ (List.getElem_mem hjn)).kept h))
            generalize c.es[j] = x at *
            obtain ⟨qa, qi, qc, qp, qw, qk, qs⟩ := x
            unfold Ent.agg at HK42
            simp only at HK42 HFX
            go_wp2
            have hdr : Below wr.heap.size wr wr.drew := (Qt.drewN wr 1).below _
            have hId := HI.out.kept hdr
            refine wp_region_front 7 10 (fun V => Below w.heap.size w V ∧ V.heap[g]? = some (.cells #[.int .i64 c.num, .int .i64 c.kind, .int .i64 c.by', .int .i64 c.dl, .int .i64 c.to', .int .i64 c.want, .int .u64 c.price, .int .u64 c.reserve, .int .u64 c.step, .int .i64 c.of', ev] 25) ∧ V.heap[w.heap.size]? = some (.cells #[.int .i64 c.num, .int .i64 c.kind, .int .i64 c.by', .int .i64 c.dl, .int .i64 c.to', .int .i64 c.want, .int .u64 c.price, .int .u64 c.reserve, .int .u64 c.step, .int .i64 c.of', .slice (some ⟨ob, oo, none⟩) c.es.length c.ec] 25) ∧ V.heap[w.heap.size + 1]? = some (.cells #[.int .i64 xa, .int .i64 xi, .int .u64 xc, .int .u64 xp, .slice xw xs.length xk] 33)) (by kernel_rfl) (by kernel_rfl) ⟨hId.bel, hId.rg, hId.rc, hId.re⟩ ?_
            simp only [List.take_succ_cons, List.take_zero, List.drop_succ_cons, List.drop_zero]
            iterate 7
              apply wpPure_cons
              · rfl
              · intro Wx hw
                have k10 : Wx.cell? ⟨g, 10, none⟩ = some ev := by rw [cell_of_row _ _ _ _ _ _ hw.2.1]; rfl
                have zc := (cells11 hw.2.2.1).2.2.2.2.2.2.2.2.2.2
                obtain ⟨f0, f1, f2, f3, f4⟩ := HFX.out _ hw.1
                go_simp
                exact ⟨rfl, rfl⟩
              try simp only [Act.put, List.setIfInBounds_toArray, List.set_cons_zero, List.set_cons_succ]
            refine wpPure_nil (wpLoud_cons (by rfl) ?_)
            go_simp
            show Calls _ _ _ _ _
            refine (HK42.out _ hId.bel).mono ?_
            rintro e1' w6' ⟨⟨ya, yi, yc, yp, yw, yk, ys⟩, rfl, hyd, hnew, hb6'⟩
            have hb0 := hdr.trans hb6'
            have hI6 := HI.out.kept hb0
            refine ⟨_, rfl, ⟨hI6.bel, hI6.rg, hI6.rc, hI6.re⟩, wpLoud_cons (by rfl) ?_⟩
            try simp only [Act.put, List.setIfInBounds_toArray, List.set_cons_zero, List.set_cons_succ]
            go_simp
            have hI6a := hI6.kept ((Below.refl _ _).alloc (Nat.le_refl _) (.cells #[.int .i64 ya, .int .i64 yi, .int .u64 yc, .int .u64 yp, .slice yw ys.length yk] 33))
            refine ⟨⟨hI6a.bel, hI6a.rg, hI6a.rc, hI6a.re⟩, wpLoud_cons (by rfl) ?_⟩
            try simp only [Act.put, List.setIfInBounds_toArray, List.set_cons_zero, List.set_cons_succ]
            refine loud_append _ _ 23 (by rfl) B 33 (.agg #[.int .i64 0, .int .i64 0, .int .u64 0, .int .u64 0, .slice none 0 0]) 5 56 Try.underlying23 infoE (by rfl) (by decide) ev _ _ (by rfl) hI6a.oe ⟨w6'.heap.size, 0, none⟩ 1 1 (eFlat [⟨ya, yi, yc, yp, yw, yk, ys⟩]) (by rfl) (by rfl) (sl_new _ _ _ _) (oneCell_eFlat _) LB1.out LB2.out hI6a.sz ?_
            intro v2 w7 ho7 hg7
            obtain ⟨ad2, cp2, rfl, _⟩ := owns_slice ho7
            obtain ⟨h7b, h7g, h7c, h7e⟩ := hI6a.past hg7
            have g7 : w7.heap[g]? = some (.cells #[.int .i64 c.num, .int .i64 c.kind, .int .i64 c.by', .int .i64 c.dl, .int .i64 c.to', .int .i64 c.want, .int .u64 c.price, .int .u64 c.reserve, .int .u64 c.step, .int .i64 c.of', ev] 25) := h7g
            refine ⟨⟨h7b, h7g, h7c, h7e⟩, wpLoud_nil ?_⟩
            try simp only [Act.put, List.setIfInBounds_toArray, List.set_cons_zero, List.set_cons_succ]
            go_wp2_with ((with_reducible refine at_store_op ?_); refine wpList_store_lit 23 g 10 #[.int .i64 c.num, .int .i64 c.kind, .int .i64 c.by', .int .i64 c.dl, .int .i64 c.to', .int .i64 c.want, .int .u64 c.price, .int .u64 c.reserve, .int .u64 c.step, .int .i64 c.of', .slice ad2 (ls.length + 1) cp2] (.slice ad2 (ls.length + 1) cp2) g7 szEs (Nat.le_of_ble_eq_true rfl) rfl rfl ?_ ?_ ?_; exact rfl; exact rfl)
            intro w8 hp8
            have HF := Lib.hid (HI.out.push hb0 hnew hg7 ho7 hp8)
            have HYD := Lib.hid hyd
            clear hb0 hnew hg7 ho7 hp8 hyd hI6 hI6a hb6' hdr hId g7 h7b h7g h7c h7e
            go_wp2
            go_roundw
            case rel => exact ⟨j + 1, _, ls ++ [⟨ya, yi, yc, yp, yw, yk, ys⟩], by omega, by go_num, by rw [List.length_append, HLL.out]; rfl, by rw [HXD.out, List.map_append, HLD.out, List.map_cons, List.map_nil, HYD.out], HF.out⟩
            case measure => simp [intOf]; omega
          · have t0 : decide ((j : Int) < (c.es.length : Int)) = false := by simp; omega
            have HJN := Lib.hid (show j = c.es.length by omega)
            have HK42e := Lib.hid (fun V (h : Below w.heap.size w V) => plain_any ⟨xa, xi, xc, xp, xw, xk, xs⟩ V (HE.out.kept h))
            unfold Ent.agg at HK42e
            simp only at HK42e
            go_wp2
            have hdr : Below wr.heap.size wr wr.drew := (Qt.drewN wr 1).below _
            have hId := HI.out.kept hdr
            refine wp_region_front 3 6 (fun V => Below w.heap.size w V ∧ V.heap[g]? = some (.cells #[.int .i64 c.num, .int .i64 c.kind, .int .i64 c.by', .int .i64 c.dl, .int .i64 c.to', .int .i64 c.want, .int .u64 c.price, .int .u64 c.reserve, .int .u64 c.step, .int .i64 c.of', ev] 25) ∧ V.heap[w.heap.size]? = some (.cells #[.int .i64 c.num, .int .i64 c.kind, .int .i64 c.by', .int .i64 c.dl, .int .i64 c.to', .int .i64 c.want, .int .u64 c.price, .int .u64 c.reserve, .int .u64 c.step, .int .i64 c.of', .slice (some ⟨ob, oo, none⟩) c.es.length c.ec] 25) ∧ V.heap[w.heap.size + 1]? = some (.cells #[.int .i64 xa, .int .i64 xi, .int .u64 xc, .int .u64 xp, .slice xw xs.length xk] 33)) (by kernel_rfl) (by kernel_rfl) ⟨hId.bel, hId.rg, hId.rc, hId.re⟩ ?_
            simp only [List.take_succ_cons, List.take_zero, List.drop_succ_cons, List.drop_zero]
            iterate 3
              apply wpPure_cons
              · rfl
              · intro Wx hw
                have k10 : Wx.cell? ⟨g, 10, none⟩ = some ev := by rw [cell_of_row _ _ _ _ _ _ hw.2.1]; rfl
                obtain ⟨u0, u1, u2, u3, u4⟩ := cells5 hw.2.2.2
                go_simp
                exact ⟨rfl, rfl⟩
              try simp only [Act.put, List.setIfInBounds_toArray, List.set_cons_zero, List.set_cons_succ]
            refine wpPure_nil (wpLoud_cons (by rfl) ?_)
            go_simp
            show Calls _ _ _ _ _
            refine (HK42e.out _ hId.bel).mono ?_
            rintro e1' w6' ⟨⟨ya, yi, yc, yp, yw, yk, ys⟩, rfl, hyd, hnew, hb6'⟩
            have hb0 := hdr.trans hb6'
            have hI6 := HI.out.kept hb0
            refine ⟨_, rfl, ⟨hI6.bel, hI6.rg, hI6.rc, hI6.re⟩, wpLoud_cons (by rfl) ?_⟩
            try simp only [Act.put, List.setIfInBounds_toArray, List.set_cons_zero, List.set_cons_succ]
            go_simp
            have hI6a := hI6.kept ((Below.refl _ _).alloc (Nat.le_refl _) (.cells #[.int .i64 ya, .int .i64 yi, .int .u64 yc, .int .u64 yp, .slice yw ys.length yk] 33))
            refine ⟨⟨hI6a.bel, hI6a.rg, hI6a.rc, hI6a.re⟩, wpLoud_cons (by rfl) ?_⟩
            try simp only [Act.put, List.setIfInBounds_toArray, List.set_cons_zero, List.set_cons_succ]
            refine loud_append _ _ 23 (by rfl) B 33 (.agg #[.int .i64 0, .int .i64 0, .int .u64 0, .int .u64 0, .slice none 0 0]) 5 56 Try.underlying23 infoE (by rfl) (by decide) ev _ _ (by rfl) hI6a.oe ⟨w6'.heap.size, 0, none⟩ 1 1 (eFlat [⟨ya, yi, yc, yp, yw, yk, ys⟩]) (by rfl) (by rfl) (sl_new _ _ _ _) (oneCell_eFlat _) LB1.out LB2.out hI6a.sz ?_
            intro v2 w7 ho7 hg7
            obtain ⟨ad2, cp2, rfl, _⟩ := owns_slice ho7
            obtain ⟨h7b, h7g, h7c, h7e⟩ := hI6a.past hg7
            have g7 : w7.heap[g]? = some (.cells #[.int .i64 c.num, .int .i64 c.kind, .int .i64 c.by', .int .i64 c.dl, .int .i64 c.to', .int .i64 c.want, .int .u64 c.price, .int .u64 c.reserve, .int .u64 c.step, .int .i64 c.of', ev] 25) := h7g
            refine ⟨⟨h7b, h7g, h7c, h7e⟩, wpLoud_nil ?_⟩
            try simp only [Act.put, List.setIfInBounds_toArray, List.set_cons_zero, List.set_cons_succ]
            go_wp2_with ((with_reducible refine at_store_op ?_); refine wpList_store_lit 23 g 10 #[.int .i64 c.num, .int .i64 c.kind, .int .i64 c.by', .int .i64 c.dl, .int .i64 c.to', .int .i64 c.want, .int .u64 c.price, .int .u64 c.reserve, .int .u64 c.step, .int .i64 c.of', .slice ad2 (ls.length + 1) cp2] (.slice ad2 (ls.length + 1) cp2) g7 szEs (Nat.le_of_ble_eq_true rfl) rfl rfl ?_ ?_ ?_; exact rfl; exact rfl)
            intro w8 hp8
            have HF := Lib.hid (HI.out.push hb0 hnew hg7 ho7 hp8)
            have HYD := Lib.hid hyd
            clear hb0 hnew hg7 ho7 hp8 hyd hI6 hI6a hb6' hdr hId g7 h7b h7g h7c h7e
            obtain ⟨ga', gcp', hgs, _⟩ := owns_slice HF.out.og
            have n0 : w8.cell? ⟨g, 0, none⟩ = some (.int .i64 c.num) := by rw [cell_of_row _ _ _ _ _ _ HF.out.rg]; rfl
            have n1 : w8.cell? ⟨g, 1, none⟩ = some (.int .i64 c.kind) := by rw [cell_of_row _ _ _ _ _ _ HF.out.rg]; rfl
            have n2 : w8.cell? ⟨g, 2, none⟩ = some (.int .i64 c.by') := by rw [cell_of_row _ _ _ _ _ _ HF.out.rg]; rfl
            have n3 : w8.cell? ⟨g, 3, none⟩ = some (.int .i64 c.dl) := by rw [cell_of_row _ _ _ _ _ _ HF.out.rg]; rfl
            have n4 : w8.cell? ⟨g, 4, none⟩ = some (.int .i64 c.to') := by rw [cell_of_row _ _ _ _ _ _ HF.out.rg]; rfl
            have n5 : w8.cell? ⟨g, 5, none⟩ = some (.int .i64 c.want) := by rw [cell_of_row _ _ _ _ _ _ HF.out.rg]; rfl
            have n6 : w8.cell? ⟨g, 6, none⟩ = some (.int .u64 c.price) := by rw [cell_of_row _ _ _ _ _ _ HF.out.rg]; rfl
            have n7 : w8.cell? ⟨g, 7, none⟩ = some (.int .u64 c.reserve) := by rw [cell_of_row _ _ _ _ _ _ HF.out.rg]; rfl
            have n8 : w8.cell? ⟨g, 8, none⟩ = some (.int .u64 c.step) := by rw [cell_of_row _ _ _ _ _ _ HF.out.rg]; rfl
            have n9 : w8.cell? ⟨g, 9, none⟩ = some (.int .i64 c.of') := by rw [cell_of_row _ _ _ _ _ _ HF.out.rg]; rfl
            have n10 : w8.cell? ⟨g, 10, none⟩ = some (.slice ad2 (ls.length + 1) cp2) := by rw [cell_of_row _ _ _ _ _ _ HF.out.rg]; rfl
            have HGS := Lib.hid hgs
            clear hgs
            go_wp2_with ((with_reducible refine at_store_op ?_); refine wpList_store_lit 25 (w.heap.size + 1 + 1) 0 #[.int .i64 c.num, .int .i64 c.kind, .int .i64 c.by', .int .i64 c.dl, .int .i64 c.to', .int .i64 c.want, .int .u64 c.price, .int .u64 c.reserve, .int .u64 c.step, .int .i64 c.of', .slice ad2 (ls.length + 1) cp2] (.agg #[.int .i64 c.num, .int .i64 c.kind, .int .i64 c.by', .int .i64 c.dl, .int .i64 c.to', .int .i64 c.want, .int .u64 c.price, .int .u64 c.reserve, .int .u64 c.step, .int .i64 c.of', .slice ad2 (ls.length + 1) cp2]) HF.out.rz szC (Nat.le_of_ble_eq_true rfl) rfl rfl ?_ ?_ ?_; exact rfl; exact rfl; intro w9 hp9)
            obtain ⟨hB9, hO9, hN9, hG9⟩ := HF.out.done hp9
            have hkd : stays c.kind (c.es.map Ent.d) = j := by
              rw [HJN.out]
              unfold stays
              rw [if_neg (by rw [List.length_map]; omega), List.length_map]
            have hmx : (ls ++ [(⟨ya, yi, yc, yp, yw, yk, ys⟩ : Ent)]).length ≤ 2513169434843 := by
              have h := HLL.out
              have h2 := HJN.out
              rw [List.length_append, h]
              show j + 1 ≤ _
              omega
            rw [HGS.out] at hG9
            refine bodyPost_ret (results_row_tmp3 Try.results12 _ _ (w.heap.size + 1 + 1) 25 _ _ _ rfl hp9.at' Try.underlying25 rfl szC) rfl
              ⟨⟨c.num, c.kind, c.by', c.dl, c.to', c.want, c.price, c.reserve, c.step, c.of', ad2, cp2, ls ++ [⟨ya, yi, yc, yp, yw, yk, ys⟩]⟩, ga', gcp', joinG c.kind (c.es.map Ent.d), ?_, hB9, ⟨by simpa only [List.length_append, List.length_cons, List.length_nil, Nat.zero_add] using hO9, hN9, hmx⟩, hG9, ?_, ?_⟩
            · show _ = Ending.returned (.tuple #[_, _, _, .int .i64 (joinV c.kind c.by' c.reserve c.step (c.es.map Ent.d) (xa, xi, xc, xp, xs))])
              rw [HT.out, ← HGS.out]
              unfold Con.agg
              simp only [List.length_append, List.length_cons, List.length_nil, Nat.zero_add]
              rfl
            · show _ = if joinV c.kind c.by' c.reserve c.step (c.es.map Ent.d) (xa, xi, xc, xp, xs) = 0 then _ else _
              rw [if_pos HT.out]
            · show _ = if joinV c.kind c.by' c.reserve c.step (c.es.map Ent.d) (xa, xi, xc, xp, xs) = 0 then _ else _
              rw [if_pos HT.out]
              show (_, _, (ls ++ [_]).map Ent.d) = (_, _, _ ++ [_])
              rw [List.map_append, HLD.out, hkd, List.map_cons, List.map_nil, HYD.out]
  · have HK3 := Lib.hid hk
    have c2 : (c.kind != 2) = true := by rw [hk]; rfl
    have c3 : (c.kind != 3) = false := by simpa using hk
    have c3e : (c.kind == 3) = true := by simpa using hk
    have c2e : (c.kind == 2) = false := by rw [hk]; rfl
    clear hk
    by_cases h : c.es.length = 0
    case pos =>
      have HT := Lib.hid (show joinV c.kind c.by' c.reserve c.step (c.es.map Ent.d) (xa, xi, xc, xp, xs) = 200 from by unfold joinV; rw [if_neg HA.out, if_neg (fun hh => hh.2.1 (by rw [List.length_map]; exact h))])
      have c1 : ((c.es.length : Int) == 0) = true := by rw [h]; rfl
      clear h
      go_wp2_with ((with_reducible refine at_store_op ?_); refine wpList_store_lit 25 (w.heap.size + 1 + 1) 0 #[.int .i64 0, .int .i64 0, .int .i64 0, .int .i64 0, .int .i64 0, .int .i64 0, .int .u64 0, .int .u64 0, .int .u64 0, .int .i64 0, .slice none 0 0] (.agg #[.int .i64 0, .int .i64 0, .int .i64 0, .int .i64 0, .int .i64 0, .int .i64 0, .int .u64 0, .int .u64 0, .int .u64 0, .int .i64 0, .slice none 0 0]) R2.out szC (Nat.le_of_ble_eq_true rfl) rfl rfl ?_ ?_ ?_; exact rfl; exact rfl; intro w9 hp9)
      have hb9 := HB.out
      have HB9 := hp9.below hb9 hb9.size (by omega)
      exact bodyPost_ret (results_row_tmp3 Try.results12 _ _ (w.heap.size + 1 + 1) 25 _ _ _ rfl hp9.at' Try.underlying25 rfl szC) rfl (joinA_no 200 HT.out (by decide) rfl HB9)
    have c1 : ((c.es.length : Int) == 0) = false := by simp; intro e; exact h (by rw [e]; rfl)
    have hn1 : 1 ≤ c.es.length := by omega
    clear h
    by_cases h : xi = 0
    case neg =>
      have HT := Lib.hid (show joinV c.kind c.by' c.reserve c.step (c.es.map Ent.d) (xa, xi, xc, xp, xs) = 200 from by unfold joinV; rw [if_neg HA.out, if_neg (fun hh => h hh.2.2.1)])
      have cb : (xi != 0) = true := by simpa using h
      clear h
      go_wp2_with ((with_reducible refine at_store_op ?_); refine wpList_store_lit 25 (w.heap.size + 1 + 1) 0 #[.int .i64 0, .int .i64 0, .int .i64 0, .int .i64 0, .int .i64 0, .int .i64 0, .int .u64 0, .int .u64 0, .int .u64 0, .int .i64 0, .slice none 0 0] (.agg #[.int .i64 0, .int .i64 0, .int .i64 0, .int .i64 0, .int .i64 0, .int .i64 0, .int .u64 0, .int .u64 0, .int .u64 0, .int .i64 0, .slice none 0 0]) R2.out szC (Nat.le_of_ble_eq_true rfl) rfl rfl ?_ ?_ ?_; exact rfl; exact rfl; intro w9 hp9)
      have hb9 := HB.out
      have HB9 := hp9.below hb9 hb9.size (by omega)
      exact bodyPost_ret (results_row_tmp3 Try.results12 _ _ (w.heap.size + 1 + 1) 25 _ _ _ rfl hp9.at' Try.underlying25 rfl szC) rfl (joinA_no 200 HT.out (by decide) rfl HB9)
    have cxi : (xi != 0) = false := by simpa using h
    have Hxi := Lib.hid h
    clear h
    by_cases h : xp = 0
    case neg =>
      have HT := Lib.hid (show joinV c.kind c.by' c.reserve c.step (c.es.map Ent.d) (xa, xi, xc, xp, xs) = 200 from by unfold joinV; rw [if_neg HA.out, if_neg (fun hh => h hh.2.2.2.1)])
      have cb : (xp != 0) = true := by simpa using h
      clear h
      go_wp2_with ((with_reducible refine at_store_op ?_); refine wpList_store_lit 25 (w.heap.size + 1 + 1) 0 #[.int .i64 0, .int .i64 0, .int .i64 0, .int .i64 0, .int .i64 0, .int .i64 0, .int .u64 0, .int .u64 0, .int .u64 0, .int .i64 0, .slice none 0 0] (.agg #[.int .i64 0, .int .i64 0, .int .i64 0, .int .i64 0, .int .i64 0, .int .i64 0, .int .u64 0, .int .u64 0, .int .u64 0, .int .i64 0, .slice none 0 0]) R2.out szC (Nat.le_of_ble_eq_true rfl) rfl rfl ?_ ?_ ?_; exact rfl; exact rfl; intro w9 hp9)
      have hb9 := HB.out
      have HB9 := hp9.below hb9 hb9.size (by omega)
      exact bodyPost_ret (results_row_tmp3 Try.results12 _ _ (w.heap.size + 1 + 1) 25 _ _ _ rfl hp9.at' Try.underlying25 rfl szC) rfl (joinA_no 200 HT.out (by decide) rfl HB9)
    have cxp : (xp != 0) = false := by simpa using h
    have Hxp := Lib.hid h
    clear h
    by_cases h : xs.length = 0
    case neg =>
      have HT := Lib.hid (show joinV c.kind c.by' c.reserve c.step (c.es.map Ent.d) (xa, xi, xc, xp, xs) = 200 from by unfold joinV; rw [if_neg HA.out, if_neg (fun hh => h hh.2.2.2.2)])
      have cb : ((xs.length : Int) != 0) = true := by simp; intro e; exact h (by rw [e]; rfl)
      clear h
      go_wp2_with ((with_reducible refine at_store_op ?_); refine wpList_store_lit 25 (w.heap.size + 1 + 1) 0 #[.int .i64 0, .int .i64 0, .int .i64 0, .int .i64 0, .int .i64 0, .int .i64 0, .int .u64 0, .int .u64 0, .int .u64 0, .int .i64 0, .slice none 0 0] (.agg #[.int .i64 0, .int .i64 0, .int .i64 0, .int .i64 0, .int .i64 0, .int .i64 0, .int .u64 0, .int .u64 0, .int .u64 0, .int .i64 0, .slice none 0 0]) R2.out szC (Nat.le_of_ble_eq_true rfl) rfl rfl ?_ ?_ ?_; exact rfl; exact rfl; intro w9 hp9)
      have hb9 := HB.out
      have HB9 := hp9.below hb9 hb9.size (by omega)
      exact bodyPost_ret (results_row_tmp3 Try.results12 _ _ (w.heap.size + 1 + 1) 25 _ _ _ rfl hp9.at' Try.underlying25 rfl szC) rfl (joinA_no 200 HT.out (by decide) rfl HB9)
    have cs : ((xs.length : Int) != 0) = false := by rw [h]; rfl
    have HJ := Lib.hid (show joinV c.kind c.by' c.reserve c.step (c.es.map Ent.d) (xa, xi, xc, xp, xs) = if lowV c.kind c.reserve c.step (c.es.map Ent.d) xc = true then 210 else if c.kind = 3 ∧ hasD ((c.es.map Ent.d).drop 1) xa = true then 236 else if c.kind = 3 ∧ 16 ≤ (c.es.map Ent.d).length then 232 else 0 by
      unfold joinV; rw [if_neg HA.out, if_pos ⟨by exact .inr HK3.out, by rw [List.length_map]; omega, Hxi.out, Hxp.out, h⟩])
    clear h
    go_wp2_with fail
    refine (HKL.out _ HB.out).mono ?_
    rintro r1 w1 ⟨rfl, hb⟩
    have HB1 := Lib.hid (HB.out.trans (hb.mono HB.out.size))
    have Q0 := Lib.hid (row_kept R0.out hb)
    have Q1 := Lib.hid (row_kept R1.out hb)
    have Q2 := Lib.hid (row_kept R2.out hb)
    have Q3 := Lib.hid (row_kept R3.out hb)
    clear hb p0 p1 p2 p3 p4 p5 p6 p7 p8 p9 p10 q0 q1 q2 q3 q4 z0 z1 z2 z3 z4 z5 z6 z7 z8 z9 z10 HB R0 R1 R2 R3
    obtain ⟨p0, p1, p2, p3, p4, p5, p6, p7, p8, p9, p10⟩ := cells11 Q0.out
    obtain ⟨q0, q1, q2, q3, q4⟩ := cells5 Q1.out
    obtain ⟨z0, z1, z2, z3, z4, z5, z6, z7, z8, z9, z10⟩ := cells11 Q3.out
    by_cases h : lowV c.kind c.reserve c.step (c.es.map Ent.d) xc = true
    case pos =>
      have HT := Lib.hid (show joinV c.kind c.by' c.reserve c.step (c.es.map Ent.d) (xa, xi, xc, xp, xs) = 210 from HJ.out.trans (if_pos h))
      rw [h]
      clear h
      go_wp2_with ((with_reducible refine at_store_op ?_); refine wpList_store_lit 25 (w.heap.size + 1 + 1) 0 #[.int .i64 0, .int .i64 0, .int .i64 0, .int .i64 0, .int .i64 0, .int .i64 0, .int .u64 0, .int .u64 0, .int .u64 0, .int .i64 0, .slice none 0 0] (.agg #[.int .i64 0, .int .i64 0, .int .i64 0, .int .i64 0, .int .i64 0, .int .i64 0, .int .u64 0, .int .u64 0, .int .u64 0, .int .i64 0, .slice none 0 0]) Q2.out szC (Nat.le_of_ble_eq_true rfl) rfl rfl ?_ ?_ ?_; exact rfl; exact rfl; intro w9 hp9)
      have hb9 := HB1.out
      have HB9 := hp9.below hb9 hb9.size (by omega)
      exact bodyPost_ret (results_row_tmp3 Try.results12 _ _ (w.heap.size + 1 + 1) 25 _ _ _ rfl hp9.at' Try.underlying25 rfl szC) rfl (joinA_no 210 HT.out (by decide) rfl HB9)
    have HJ2 := Lib.hid (HJ.out.trans (if_neg h))
    have hlv : lowV c.kind c.reserve c.step (c.es.map Ent.d) xc = false := by simpa using h
    rw [hlv]
    clear h HJ hlv
    have HQE := Lib.hid (fun V (h : Below w.heap.size w V) j hj => (HC.out.kept h).entD j hj)
    have HLM := Lib.hid (show (c.es.map Ent.d).length = c.es.length by simp)
    go_wp2
    obtain ⟨ob, oo, hea, _⟩ := HC.out.ent 0 (by omega)
    have HEA := Lib.hid hea
    clear hea
    go_loopw [10] (fun i wr => ∃ j : Nat, 1 ≤ j ∧ j ≤ c.es.length ∧ i = .int .i64 j ∧ (∀ q, 1 ≤ q → q < j → dA (c.es.map Ent.d) q ≠ xa) ∧ Qt w1 wr) (fun i _ => c.es.length - (intOf i).toNat)
    case atStart => exact ⟨1, by omega, by omega, rfl, fun q h1 h2 => by omega, Qt.refl _⟩
    case round =>
      obtain ⟨j, hj1, hjn, rfl, hno, hq⟩ := hrel
      have HNO := Lib.hid hno
      have HBr := Lib.hid (HB1.out.trans (hq.below _))
      have S0 := Lib.hid (row_kept Q0.out (hq.below _))
      have S1 := Lib.hid (row_kept Q1.out (hq.below _))
      have S2 := Lib.hid (row_kept Q2.out (hq.below _))
      have S3 := Lib.hid (row_kept Q3.out (hq.below _))
      have HQQ := Lib.hid hq
      clear hno hq p0 p1 p2 p3 p4 p5 p6 p7 p8 p9 p10 q0 q1 q2 q3 q4 z0 z1 z2 z3 z4 z5 z6 z7 z8 z9 z10
      obtain ⟨p0, p1, p2, p3, p4, p5, p6, p7, p8, p9, p10⟩ := cells11 S0.out
      obtain ⟨q0, q1, q2, q3, q4⟩ := cells5 S1.out
      obtain ⟨z0, z1, z2, z3, z4, z5, z6, z7, z8, z9, z10⟩ := cells11 S3.out
      rw [HEA.out] at p10
      by_cases hlt : j < c.es.length
      · have t0 : decide ((j : Int) < (c.es.length : Int)) = true := by simp; omega
        have i1 : (j : Int) < (c.es.length : Int) := by omega
        obtain ⟨_, _, _, _, _, _, he, f0, _, _, _, _⟩ := HQE.out _ HBr.out j hlt
        rw [HEA.out] at he
        cases he
        by_cases hx : dA (c.es.map Ent.d) j = xa
        · have cx : (dA (c.es.map Ent.d) j == xa) = true := by simpa using hx
          have HT := Lib.hid (show joinV c.kind c.by' c.reserve c.step (c.es.map Ent.d) (xa, xi, xc, xp, xs) = 236 from HJ2.out.trans (if_pos ⟨HK3.out, hasD_yes _ _ j hj1 (by rw [HLM.out]; exact hlt) hx⟩))
          clear hx
          go_wp2
          go_quiet (fail)
          go_wp2_with ((with_reducible refine at_store_op ?_); refine wpList_store_lit 25 (w.heap.size + 1 + 1) 0 #[.int .i64 0, .int .i64 0, .int .i64 0, .int .i64 0, .int .i64 0, .int .i64 0, .int .u64 0, .int .u64 0, .int .u64 0, .int .i64 0, .slice none 0 0] (.agg #[.int .i64 0, .int .i64 0, .int .i64 0, .int .i64 0, .int .i64 0, .int .i64 0, .int .u64 0, .int .u64 0, .int .u64 0, .int .i64 0, .slice none 0 0]) S2.out szC (Nat.le_of_ble_eq_true rfl) rfl rfl ?_ ?_ ?_; exact rfl; exact rfl; intro w9 hp9)
          have hb9 := HBr.out.trans ((Qt.drewN wr nq).below _)
          have HB9 := hp9.below hb9 hb9.size (by omega)
          exact bodyPost_ret (results_row_tmp3 Try.results12 _ _ (w.heap.size + 1 + 1) 25 _ _ _ rfl hp9.at' Try.underlying25 rfl szC) rfl (joinA_no 236 HT.out (by decide) rfl HB9)
        · have cx : (dA (c.es.map Ent.d) j == xa) = false := by simpa using hx
          have HNX := Lib.hid (show ∀ q, 1 ≤ q → q < j + 1 → dA (c.es.map Ent.d) q ≠ xa from fun q h1 h2 => by
            by_cases e : q = j
            · subst e; exact hx
            · exact HNO.out q h1 (by omega))
          clear hx
          go_wp2
          go_quiet (fail)
          go_wp2
          go_roundw
          case rel => exact ⟨j + 1, by omega, by omega, by go_num, HNX.out, HQQ.out.trans ⟨_, rfl⟩⟩
          case measure => simp [intOf]; omega
      · have t0 : decide ((j : Int) < (c.es.length : Int)) = false := by simp; omega
        have HHN := Lib.hid (hasD_no (c.es.map Ent.d) xa (fun q h1 h2 => HNO.out q h1 (by rw [HLM.out] at h2; omega)))
        have HJ3 := Lib.hid (HJ2.out.trans (if_neg (fun hh => by have h1 := hh.2; rw [HHN.out] at h1; cases h1)))
        by_cases h : 16 ≤ c.es.length
        case pos =>
          have HT := Lib.hid (show joinV c.kind c.by' c.reserve c.step (c.es.map Ent.d) (xa, xi, xc, xp, xs) = 232 from HJ3.out.trans (if_pos ⟨HK3.out, by rw [HLM.out]; exact h⟩))
          have c16 : decide ((c.es.length : Int) ≥ 16) = true := by simp; omega
          clear h
          go_wp2_with ((with_reducible refine at_store_op ?_); refine wpList_store_lit 25 (w.heap.size + 1 + 1) 0 #[.int .i64 0, .int .i64 0, .int .i64 0, .int .i64 0, .int .i64 0, .int .i64 0, .int .u64 0, .int .u64 0, .int .u64 0, .int .i64 0, .slice none 0 0] (.agg #[.int .i64 0, .int .i64 0, .int .i64 0, .int .i64 0, .int .i64 0, .int .i64 0, .int .u64 0, .int .u64 0, .int .u64 0, .int .i64 0, .slice none 0 0]) S2.out szC (Nat.le_of_ble_eq_true rfl) rfl rfl ?_ ?_ ?_; exact rfl; exact rfl; intro w9 hp9)
          have hb9 := HBr.out
          have HB9 := hp9.below hb9 hb9.size (by omega)
          exact bodyPost_ret (results_row_tmp3 Try.results12 _ _ (w.heap.size + 1 + 1) 25 _ _ _ rfl hp9.at' Try.underlying25 rfl szC) rfl (joinA_no 232 HT.out (by decide) rfl HB9)
        have c16 : decide ((c.es.length : Int) ≥ 16) = false := by simp; omega
        have HN16 := Lib.hid h
        have HJ4 := Lib.hid (HJ3.out.trans (if_neg (fun hh => h (by have := hh.2; rw [HLM.out] at this; exact this))))
        obtain ⟨w4, hw4⟩ : ∃ W, W = wr := ⟨_, rfl⟩
        subst hw4
        clear h p10 HEA HNO HQQ HHN HJ3 HB1 Q0 Q1 Q2 Q3
        have HT := Lib.hid (show joinV c.kind c.by' c.reserve c.step (c.es.map Ent.d) (xa, xi, xc, xp, xs) = 0 from HJ4.out)
        obtain ⟨ob, oo, hea, _⟩ := HC.out.ent 0 (by omega)
        have HEA := Lib.hid hea
        have HRC := Lib.hid (show w4.heap[w.heap.size]? = some (.cells #[.int .i64 c.num, .int .i64 c.kind, .int .i64 c.by', .int .i64 c.dl, .int .i64 c.to', .int .i64 c.want, .int .u64 c.price, .int .u64 c.reserve, .int .u64 c.step, .int .i64 c.of', .slice (some ⟨ob, oo, none⟩) c.es.length c.ec] 25) by have h := S0.out; rw [hea] at h; exact h)
        obtain ⟨p0, p1, p2, p3, p4, p5, p6, p7, p8, p9, p10⟩ := cells11 HRC.out
        have HFE := Lib.hid (show ∀ V, Below w.heap.size w V → ∀ j (hj : j < c.es.length), V.cell? ⟨ob, oo + j * 5, none⟩ = some (.int .i64 c.es[j].acc) ∧ V.cell? ⟨ob, oo + j * 5 + 1, none⟩ = some (.int .i64 c.es[j].item) ∧ V.cell? ⟨ob, oo + j * 5 + 2, none⟩ = some (.int .u64 c.es[j].coins) ∧
    V.cell? ⟨ob, oo + j * 5 + 3, none⟩ = some (.int .u64 c.es[j].price) ∧ V.cell? ⟨ob, oo + j * 5 + 4, none⟩ = some (.slice c.es[j].wa c.es[j].ws.length c.es[j].wc) from fun V h j hj => by
  obtain ⟨_, _, he, f⟩ := (HC.out.kept h).ent j hj
  rw [HEA.out] at he
  cases he
  exact f)
        clear hea
        obtain ⟨g, hg⟩ : ∃ g, g = w4.heap.size := ⟨_, rfl⟩
        obtain ⟨w5, hw5⟩ : ∃ V, V = w4.alloc (.cells #[.int .i64 c.num, .int .i64 c.kind, .int .i64 c.by', .int .i64 c.dl, .int .i64 c.to', .int .i64 c.want, .int .u64 c.price, .int .u64 c.reserve, .int .u64 c.step, .int .i64 c.of', .slice none 0 0] 25) := ⟨_, rfl⟩
        have hlt3 := lt_row S3.out
        have HI0 := Lib.hid (show JI w g (g + 1) (fun v => #[.int .i64 c.num, .int .i64 c.kind, .int .i64 c.by', .int .i64 c.dl, .int .i64 c.to', .int .i64 c.want, .int .u64 c.price, .int .u64 c.reserve, .int .u64 c.step, .int .i64 c.of', v]) 25 #[.int .i64 c.num, .int .i64 c.kind, .int .i64 c.by', .int .i64 c.dl, .int .i64 c.to', .int .i64 c.want, .int .u64 c.price, .int .u64 c.reserve, .int .u64 c.step, .int .i64 c.of', .slice (some ⟨ob, oo, none⟩) c.es.length c.ec] #[.int .i64 xa, .int .i64 xi, .int .u64 xc, .int .u64 xp, .slice xw xs.length xk] #[.int .i64 0, .int .i64 0, .int .i64 0, .int .i64 0, .int .i64 0, .int .i64 0, .int .u64 0, .int .u64 0, .int .u64 0, .int .i64 0, .slice none 0 0] w5 (.slice none 0 0) (.slice none 0 0) [] [] by
  rw [hw5]
  exact ⟨HBr.out.alloc HBr.out.size _, alloc_at (by rw [hg]), alloc_old HRC.out, alloc_old S1.out, alloc_old S2.out, World.ownsRow_nil _ _ _ _, (fun x hx => by cases hx), World.ownsRow_nil _ _ _ _, Nat.lt_succ_self _, by omega, by rw [hg]; simp⟩)
        obtain ⟨B, hBdef⟩ : ∃ B, B = g + 1 := ⟨_, rfl⟩
        rw [← hBdef] at HI0
        have HW5 := Lib.hid hw5
        have pA1 := fun X => below_cell ((Below.refl w4.heap.size w4).alloc (Nat.le_refl _) X) p1
        have pA10 := fun X => below_cell ((Below.refl w4.heap.size w4).alloc (Nat.le_refl _) X) p10
        have HBX := Lib.hid (show ∀ X, Below w.heap.size w (w4.alloc X) from fun X => HBr.out.alloc HBr.out.size X)
        have HGG := Lib.hid hg
        clear hw5 hBdef hlt3 hg HRC HBr S0 S1 S2 S3 HKL
        have HJG := Lib.hid (show joinG c.kind (c.es.map Ent.d) = [] by unfold joinG; rw [if_neg (by rw [List.length_map]; have := HK3.out; omega)])
        go_wp2
        rw [← HW5.out, ← HGG.out]
        obtain ⟨w6, hw6⟩ : ∃ W, W = w5 := ⟨_, rfl⟩
        rw [← hw6] at HI0 ⊢
        clear hw6 HW5 pA1 pA10 HBX
        have HI1 := Lib.hid (show JI w g B (fun v => #[.int .i64 c.num, .int .i64 c.kind, .int .i64 c.by', .int .i64 c.dl, .int .i64 c.to', .int .i64 c.want, .int .u64 c.price, .int .u64 c.reserve, .int .u64 c.step, .int .i64 c.of', v]) 25 #[.int .i64 c.num, .int .i64 c.kind, .int .i64 c.by', .int .i64 c.dl, .int .i64 c.to', .int .i64 c.want, .int .u64 c.price, .int .u64 c.reserve, .int .u64 c.step, .int .i64 c.of', .slice (some ⟨ob, oo, none⟩) c.es.length c.ec] #[.int .i64 xa, .int .i64 xi, .int .u64 xc, .int .u64 xp, .slice xw xs.length xk] #[.int .i64 0, .int .i64 0, .int .i64 0, .int .i64 0, .int .i64 0, .int .i64 0, .int .u64 0, .int .u64 0, .int .u64 0, .int .i64 0, .slice none 0 0] w6 (.slice none 0 0) (.slice none 0 0) [] (joinG c.kind (c.es.map Ent.d)) by rw [HJG.out]; exact HI0.out)
        obtain ⟨gv, hgv⟩ : ∃ gv, gv = Value.slice none 0 0 := ⟨_, rfl⟩
        have HGV := Lib.hid hgv
        go_loopw [14] (fun i wr => ∃ (j : Nat) (ev : Value) (ls : List Ent), j ≤ c.es.length ∧ i = .int .i64 j ∧ ls.length = j ∧ ls.map Ent.d = (c.es.map Ent.d).take j ∧ JI w g B (fun v => #[.int .i64 c.num, .int .i64 c.kind, .int .i64 c.by', .int .i64 c.dl, .int .i64 c.to', .int .i64 c.want, .int .u64 c.price, .int .u64 c.reserve, .int .u64 c.step, .int .i64 c.of', v]) 25 #[.int .i64 c.num, .int .i64 c.kind, .int .i64 c.by', .int .i64 c.dl, .int .i64 c.to', .int .i64 c.want, .int .u64 c.price, .int .u64 c.reserve, .int .u64 c.step, .int .i64 c.of', .slice (some ⟨ob, oo, none⟩) c.es.length c.ec] #[.int .i64 xa, .int .i64 xi, .int .u64 xc, .int .u64 xp, .slice xw xs.length xk] #[.int .i64 0, .int .i64 0, .int .i64 0, .int .i64 0, .int .i64 0, .int .i64 0, .int .u64 0, .int .u64 0, .int .u64 0, .int .i64 0, .slice none 0 0] wr ev (.slice none 0 0) ls (joinG c.kind (c.es.map Ent.d))) (fun i _ => c.es.length - (intOf i).toNat)
        case atStart => exact ⟨0, _, [], by omega, rfl, rfl, rfl, HI1.out⟩
        case round =>
          clear HI1
          obtain ⟨j, ev, ls, hj, rfl, hll, hld, hi⟩ := hrel
          have HI := Lib.hid hi
          have HLL := Lib.hid hll
          have HLD := Lib.hid hld
          have hls : ls.length ≤ 2513169434843 := by omega
          have LB1 := Lib.hid (show ls.length + 1 ≤ maxLen by unfold maxLen; omega)
          have LB2 := Lib.hid (show (ls.length + 1) * 56 ≤ 140737488355328 by omega)
          clear hi hll hld
          by_cases hlt : j < c.es.length
          · have t0 : decide ((j : Int) < (c.es.length : Int)) = true := by simp; omega
            have i1 : (j : Int) < (c.es.length : Int) := by omega
            have hjn : j < c.es.length := by omega
            have HFX := Lib.hid (fun V (h : Below w.heap.size w V) => HFE.out V h j hjn)
            have HXD := Lib.hid (show (c.es.map Ent.d).take (j + 1) = (c.es.map Ent.d).take j ++ [c.es[j].d] by rw [List.take_succ_eq_append_getElem (by simpa using hjn)]; simp)
            have HK42 := Lib.hid (fun V (h : Below w.heap.size w V) => plain_any c.es[j] V ((HC.out.ents _ (List.getElem_mem hjn)).kept h))
            generalize c.es[j] = x at *
            obtain ⟨qa, qi, qc, qp, qw, qk, qs⟩ := x
            unfold Ent.agg at HK42
            simp only at HK42 HFX
            go_wp2
            have hdr : Below wr.heap.size wr wr.drew := (Qt.drewN wr 1).below _
            have hId := HI.out.kept hdr
            refine wp_region_front 7 10 (fun V => Below w.heap.size w V ∧ V.heap[g]? = some (.cells #[.int .i64 c.num, .int .i64 c.kind, .int .i64 c.by', .int .i64 c.dl, .int .i64 c.to', .int .i64 c.want, .int .u64 c.price, .int .u64 c.reserve, .int .u64 c.step, .int .i64 c.of', ev] 25) ∧ V.heap[w.heap.size]? = some (.cells #[.int .i64 c.num, .int .i64 c.kind, .int .i64 c.by', .int .i64 c.dl, .int .i64 c.to', .int .i64 c.want, .int .u64 c.price, .int .u64 c.reserve, .int .u64 c.step, .int .i64 c.of', .slice (some ⟨ob, oo, none⟩) c.es.length c.ec] 25) ∧ V.heap[w.heap.size + 1]? = some (.cells #[.int .i64 xa, .int .i64 xi, .int .u64 xc, .int .u64 xp, .slice xw xs.length xk] 33)) (by kernel_rfl) (by kernel_rfl) ⟨hId.bel, hId.rg, hId.rc, hId.re⟩ ?_
            simp only [List.take_succ_cons, List.take_zero, List.drop_succ_cons, List.drop_zero]
            iterate 7
              apply wpPure_cons
              · rfl
              · intro Wx hw
                have k10 : Wx.cell? ⟨g, 10, none⟩ = some ev := by rw [cell_of_row _ _ _ _ _ _ hw.2.1]; rfl
                have zc := (cells11 hw.2.2.1).2.2.2.2.2.2.2.2.2.2
                obtain ⟨f0, f1, f2, f3, f4⟩ := HFX.out _ hw.1
                go_simp
                exact ⟨rfl, rfl⟩
              try simp only [Act.put, List.setIfInBounds_toArray, List.set_cons_zero, List.set_cons_succ]
            refine wpPure_nil (wpLoud_cons (by rfl) ?_)
            go_simp
            show Calls _ _ _ _ _
            refine (HK42.out _ hId.bel).mono ?_
            rintro e1' w6' ⟨⟨ya, yi, yc, yp, yw, yk, ys⟩, rfl, hyd, hnew, hb6'⟩
            have hb0 := hdr.trans hb6'
            have hI6 := HI.out.kept hb0
            refine ⟨_, rfl, ⟨hI6.bel, hI6.rg, hI6.rc, hI6.re⟩, wpLoud_cons (by rfl) ?_⟩
            try simp only [Act.put, List.setIfInBounds_toArray, List.set_cons_zero, List.set_cons_succ]
            go_simp
            have hI6a := hI6.kept ((Below.refl _ _).alloc (Nat.le_refl _) (.cells #[.int .i64 ya, .int .i64 yi, .int .u64 yc, .int .u64 yp, .slice yw ys.length yk] 33))
            refine ⟨⟨hI6a.bel, hI6a.rg, hI6a.rc, hI6a.re⟩, wpLoud_cons (by rfl) ?_⟩
            try simp only [Act.put, List.setIfInBounds_toArray, List.set_cons_zero, List.set_cons_succ]
            refine loud_append _ _ 23 (by rfl) B 33 (.agg #[.int .i64 0, .int .i64 0, .int .u64 0, .int .u64 0, .slice none 0 0]) 5 56 Try.underlying23 infoE (by rfl) (by decide) ev _ _ (by rfl) hI6a.oe ⟨w6'.heap.size, 0, none⟩ 1 1 (eFlat [⟨ya, yi, yc, yp, yw, yk, ys⟩]) (by rfl) (by rfl) (sl_new _ _ _ _) (oneCell_eFlat _) LB1.out LB2.out hI6a.sz ?_
            intro v2 w7 ho7 hg7
            obtain ⟨ad2, cp2, rfl, _⟩ := owns_slice ho7
            obtain ⟨h7b, h7g, h7c, h7e⟩ := hI6a.past hg7
            have g7 : w7.heap[g]? = some (.cells #[.int .i64 c.num, .int .i64 c.kind, .int .i64 c.by', .int .i64 c.dl, .int .i64 c.to', .int .i64 c.want, .int .u64 c.price, .int .u64 c.reserve, .int .u64 c.step, .int .i64 c.of', ev] 25) := h7g
            refine ⟨⟨h7b, h7g, h7c, h7e⟩, wpLoud_nil ?_⟩
            try simp only [Act.put, List.setIfInBounds_toArray, List.set_cons_zero, List.set_cons_succ]
            go_wp2_with ((with_reducible refine at_store_op ?_); refine wpList_store_lit 23 g 10 #[.int .i64 c.num, .int .i64 c.kind, .int .i64 c.by', .int .i64 c.dl, .int .i64 c.to', .int .i64 c.want, .int .u64 c.price, .int .u64 c.reserve, .int .u64 c.step, .int .i64 c.of', .slice ad2 (ls.length + 1) cp2] (.slice ad2 (ls.length + 1) cp2) g7 szEs (Nat.le_of_ble_eq_true rfl) rfl rfl ?_ ?_ ?_; exact rfl; exact rfl)
            intro w8 hp8
            have HF := Lib.hid (HI.out.push hb0 hnew hg7 ho7 hp8)
            have HYD := Lib.hid hyd
            clear hb0 hnew hg7 ho7 hp8 hyd hI6 hI6a hb6' hdr hId g7 h7b h7g h7c h7e
            go_wp2
            go_roundw
            case rel => exact ⟨j + 1, _, ls ++ [⟨ya, yi, yc, yp, yw, yk, ys⟩], by omega, by go_num, by rw [List.length_append, HLL.out]; rfl, by rw [HXD.out, List.map_append, HLD.out, List.map_cons, List.map_nil, HYD.out], HF.out⟩
            case measure => simp [intOf]; omega
          · have t0 : decide ((j : Int) < (c.es.length : Int)) = false := by simp; omega
            have HJN := Lib.hid (show j = c.es.length by omega)
            have HK42e := Lib.hid (fun V (h : Below w.heap.size w V) => plain_any ⟨xa, xi, xc, xp, xw, xk, xs⟩ V (HE.out.kept h))
            unfold Ent.agg at HK42e
            simp only at HK42e
            go_wp2
            have hdr : Below wr.heap.size wr wr.drew := (Qt.drewN wr 1).below _
            have hId := HI.out.kept hdr
            refine wp_region_front 3 6 (fun V => Below w.heap.size w V ∧ V.heap[g]? = some (.cells #[.int .i64 c.num, .int .i64 c.kind, .int .i64 c.by', .int .i64 c.dl, .int .i64 c.to', .int .i64 c.want, .int .u64 c.price, .int .u64 c.reserve, .int .u64 c.step, .int .i64 c.of', ev] 25) ∧ V.heap[w.heap.size]? = some (.cells #[.int .i64 c.num, .int .i64 c.kind, .int .i64 c.by', .int .i64 c.dl, .int .i64 c.to', .int .i64 c.want, .int .u64 c.price, .int .u64 c.reserve, .int .u64 c.step, .int .i64 c.of', .slice (some ⟨ob, oo, none⟩) c.es.length c.ec] 25) ∧ V.heap[w.heap.size + 1]? = some (.cells #[.int .i64 xa, .int .i64 xi, .int .u64 xc, .int .u64 xp, .slice xw xs.length xk] 33)) (by kernel_rfl) (by kernel_rfl) ⟨hId.bel, hId.rg, hId.rc, hId.re⟩ ?_
            simp only [List.take_succ_cons, List.take_zero, List.drop_succ_cons, List.drop_zero]
            iterate 3
              apply wpPure_cons
              · rfl
              · intro Wx hw
                have k10 : Wx.cell? ⟨g, 10, none⟩ = some ev := by rw [cell_of_row _ _ _ _ _ _ hw.2.1]; rfl
                obtain ⟨u0, u1, u2, u3, u4⟩ := cells5 hw.2.2.2
                go_simp
                exact ⟨rfl, rfl⟩
              try simp only [Act.put, List.setIfInBounds_toArray, List.set_cons_zero, List.set_cons_succ]
            refine wpPure_nil (wpLoud_cons (by rfl) ?_)
            go_simp
            show Calls _ _ _ _ _
            refine (HK42e.out _ hId.bel).mono ?_
            rintro e1' w6' ⟨⟨ya, yi, yc, yp, yw, yk, ys⟩, rfl, hyd, hnew, hb6'⟩
            have hb0 := hdr.trans hb6'
            have hI6 := HI.out.kept hb0
            refine ⟨_, rfl, ⟨hI6.bel, hI6.rg, hI6.rc, hI6.re⟩, wpLoud_cons (by rfl) ?_⟩
            try simp only [Act.put, List.setIfInBounds_toArray, List.set_cons_zero, List.set_cons_succ]
            go_simp
            have hI6a := hI6.kept ((Below.refl _ _).alloc (Nat.le_refl _) (.cells #[.int .i64 ya, .int .i64 yi, .int .u64 yc, .int .u64 yp, .slice yw ys.length yk] 33))
            refine ⟨⟨hI6a.bel, hI6a.rg, hI6a.rc, hI6a.re⟩, wpLoud_cons (by rfl) ?_⟩
            try simp only [Act.put, List.setIfInBounds_toArray, List.set_cons_zero, List.set_cons_succ]
            refine loud_append _ _ 23 (by rfl) B 33 (.agg #[.int .i64 0, .int .i64 0, .int .u64 0, .int .u64 0, .slice none 0 0]) 5 56 Try.underlying23 infoE (by rfl) (by decide) ev _ _ (by rfl) hI6a.oe ⟨w6'.heap.size, 0, none⟩ 1 1 (eFlat [⟨ya, yi, yc, yp, yw, yk, ys⟩]) (by rfl) (by rfl) (sl_new _ _ _ _) (oneCell_eFlat _) LB1.out LB2.out hI6a.sz ?_
            intro v2 w7 ho7 hg7
            obtain ⟨ad2, cp2, rfl, _⟩ := owns_slice ho7
            obtain ⟨h7b, h7g, h7c, h7e⟩ := hI6a.past hg7
            have g7 : w7.heap[g]? = some (.cells #[.int .i64 c.num, .int .i64 c.kind, .int .i64 c.by', .int .i64 c.dl, .int .i64 c.to', .int .i64 c.want, .int .u64 c.price, .int .u64 c.reserve, .int .u64 c.step, .int .i64 c.of', ev] 25) := h7g
            refine ⟨⟨h7b, h7g, h7c, h7e⟩, wpLoud_nil ?_⟩
            try simp only [Act.put, List.setIfInBounds_toArray, List.set_cons_zero, List.set_cons_succ]
            go_wp2_with ((with_reducible refine at_store_op ?_); refine wpList_store_lit 23 g 10 #[.int .i64 c.num, .int .i64 c.kind, .int .i64 c.by', .int .i64 c.dl, .int .i64 c.to', .int .i64 c.want, .int .u64 c.price, .int .u64 c.reserve, .int .u64 c.step, .int .i64 c.of', .slice ad2 (ls.length + 1) cp2] (.slice ad2 (ls.length + 1) cp2) g7 szEs (Nat.le_of_ble_eq_true rfl) rfl rfl ?_ ?_ ?_; exact rfl; exact rfl)
            intro w8 hp8
            have HF := Lib.hid (HI.out.push hb0 hnew hg7 ho7 hp8)
            have HYD := Lib.hid hyd
            clear hb0 hnew hg7 ho7 hp8 hyd hI6 hI6a hb6' hdr hId g7 h7b h7g h7c h7e
            obtain ⟨ga', gcp', hgs, _⟩ := owns_slice HF.out.og
            have n0 : w8.cell? ⟨g, 0, none⟩ = some (.int .i64 c.num) := by rw [cell_of_row _ _ _ _ _ _ HF.out.rg]; rfl
            have n1 : w8.cell? ⟨g, 1, none⟩ = some (.int .i64 c.kind) := by rw [cell_of_row _ _ _ _ _ _ HF.out.rg]; rfl
            have n2 : w8.cell? ⟨g, 2, none⟩ = some (.int .i64 c.by') := by rw [cell_of_row _ _ _ _ _ _ HF.out.rg]; rfl
            have n3 : w8.cell? ⟨g, 3, none⟩ = some (.int .i64 c.dl) := by rw [cell_of_row _ _ _ _ _ _ HF.out.rg]; rfl
            have n4 : w8.cell? ⟨g, 4, none⟩ = some (.int .i64 c.to') := by rw [cell_of_row _ _ _ _ _ _ HF.out.rg]; rfl
            have n5 : w8.cell? ⟨g, 5, none⟩ = some (.int .i64 c.want) := by rw [cell_of_row _ _ _ _ _ _ HF.out.rg]; rfl
            have n6 : w8.cell? ⟨g, 6, none⟩ = some (.int .u64 c.price) := by rw [cell_of_row _ _ _ _ _ _ HF.out.rg]; rfl
            have n7 : w8.cell? ⟨g, 7, none⟩ = some (.int .u64 c.reserve) := by rw [cell_of_row _ _ _ _ _ _ HF.out.rg]; rfl
            have n8 : w8.cell? ⟨g, 8, none⟩ = some (.int .u64 c.step) := by rw [cell_of_row _ _ _ _ _ _ HF.out.rg]; rfl
            have n9 : w8.cell? ⟨g, 9, none⟩ = some (.int .i64 c.of') := by rw [cell_of_row _ _ _ _ _ _ HF.out.rg]; rfl
            have n10 : w8.cell? ⟨g, 10, none⟩ = some (.slice ad2 (ls.length + 1) cp2) := by rw [cell_of_row _ _ _ _ _ _ HF.out.rg]; rfl
            have HGS := Lib.hid hgs
            clear hgs
            go_wp2_with ((with_reducible refine at_store_op ?_); refine wpList_store_lit 25 (w.heap.size + 1 + 1) 0 #[.int .i64 c.num, .int .i64 c.kind, .int .i64 c.by', .int .i64 c.dl, .int .i64 c.to', .int .i64 c.want, .int .u64 c.price, .int .u64 c.reserve, .int .u64 c.step, .int .i64 c.of', .slice ad2 (ls.length + 1) cp2] (.agg #[.int .i64 c.num, .int .i64 c.kind, .int .i64 c.by', .int .i64 c.dl, .int .i64 c.to', .int .i64 c.want, .int .u64 c.price, .int .u64 c.reserve, .int .u64 c.step, .int .i64 c.of', .slice ad2 (ls.length + 1) cp2]) HF.out.rz szC (Nat.le_of_ble_eq_true rfl) rfl rfl ?_ ?_ ?_; exact rfl; exact rfl; intro w9 hp9)
            obtain ⟨hB9, hO9, hN9, hG9⟩ := HF.out.done hp9
            have hkd : stays c.kind (c.es.map Ent.d) = j := by
              rw [HJN.out]
              unfold stays
              rw [if_neg (by rw [List.length_map]; have := HK3.out; omega), List.length_map]
            have hmx : (ls ++ [(⟨ya, yi, yc, yp, yw, yk, ys⟩ : Ent)]).length ≤ 2513169434843 := by
              have h := HLL.out
              have h2 := HJN.out
              rw [List.length_append, h]
              show j + 1 ≤ _
              have := HN16.out; omega
            rw [HGS.out] at hG9
            refine bodyPost_ret (results_row_tmp3 Try.results12 _ _ (w.heap.size + 1 + 1) 25 _ _ _ rfl hp9.at' Try.underlying25 rfl szC) rfl
              ⟨⟨c.num, c.kind, c.by', c.dl, c.to', c.want, c.price, c.reserve, c.step, c.of', ad2, cp2, ls ++ [⟨ya, yi, yc, yp, yw, yk, ys⟩]⟩, ga', gcp', joinG c.kind (c.es.map Ent.d), ?_, hB9, ⟨by simpa only [List.length_append, List.length_cons, List.length_nil, Nat.zero_add] using hO9, hN9, hmx⟩, hG9, ?_, ?_⟩
            · show _ = Ending.returned (.tuple #[_, _, _, .int .i64 (joinV c.kind c.by' c.reserve c.step (c.es.map Ent.d) (xa, xi, xc, xp, xs))])
              rw [HT.out, ← HGS.out]
              unfold Con.agg
              simp only [List.length_append, List.length_cons, List.length_nil, Nat.zero_add]
              rfl
            · show _ = if joinV c.kind c.by' c.reserve c.step (c.es.map Ent.d) (xa, xi, xc, xp, xs) = 0 then _ else _
              rw [if_pos HT.out]
            · show _ = if joinV c.kind c.by' c.reserve c.step (c.es.map Ent.d) (xa, xi, xc, xp, xs) = 0 then _ else _
              rw [if_pos HT.out]
              show (_, _, (ls ++ [_]).map Ent.d) = (_, _, _ ++ [_])
              rw [List.map_append, HLD.out, hkd, List.map_cons, List.map_nil, HYD.out]
end Go.Proofs.Ytpejcndfplbikaa
