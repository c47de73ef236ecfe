/-
  What Clear, Strict, Join and End answer is new memory, each list of it apart from each other; what is handed in stays.
  No condition beyond the statement's own.
-/
import Derived.Test.YtbggibdldadpiaaYl
namespace Go.Proofs.Ytbggibdldadpiaa.lawCallOwn
open Go.RowKit Go.K Go.Maps Go.ChangeShapes Go.WideShapes Go.ChangeAt
set_option linter.unusedVariables false
set_option linter.unusedSimpArgs false
theorem sl3 {V : World} {B : Nat} {a : Option Addr} {n k : Nat} {xs : List Value} (h : V.ownsRow B 3 1 (.slice a n k) n xs) : Sl V a xs ∧ (a = none → n = 0 ∧ k = 0) ∧ xs.length = n * 1 := by
  obtain ⟨a', c', hv, hn, hs, _⟩ := Go.K.owns_slice h
  injection hv with h1 h2 h3
  rw [h1, h3]
  exact ⟨hs, hn, h.1⟩
set_option maxRecDepth 100000 in
set_option maxHeartbeats 8000000 in
theorem walk (xa : Option Addr) (xc : Nat) (xs : List (BitVec 64)) (ya : Option Addr) (yc : Nat) (ys : List (BitVec 64)) (za : Option Addr) (zc : Nat) (zs : List (BitVec 64)) (c : Con) (e : Ent) (w : World)
    (s0 : Sl w xa (vQ xs)) (n0 : xs.length ≤ xc) (m0 : xc ≤ 17592186043904) (z0 : xa = none → xs.length = 0 ∧ xc = 0) (s1 : Sl w ya (vQ ys)) (n1 : ys.length ≤ yc) (m1 : yc ≤ 17592186043904) (z1 : ya = none → ys.length = 0 ∧ yc = 0)
    (s2 : Sl w za (vQ zs)) (n2 : zs.length ≤ zc) (m2 : zc ≤ 17592186043904) (z2 : za = none → zs.length = 0 ∧ zc = 0) (hc : ConOk w c) (he : EntOk w e) :
    Calls Try.prog 6 #[.slice xa xs.length xc, .slice ya ys.length yc, .slice za zs.length zc, c.agg, e.agg] w fun r w' => r = .returned (.bool true) ∧ Below w.heap.size w w' := by
  have hxm : xs.length ≤ 17592186043904 := by omega
  have hym : ys.length ≤ 17592186043904 := by omega
  have hzm : zs.length ≤ 17592186043904 := by omega
  have HC := Lib.hid hc
  have HE := Lib.hid he
  have HK8 := Lib.hid (fun V (h : Below w.heap.size w V) => clear_own xs ys xa ya xc yc V hxm hym (s0.kept h) (s1.kept h))
  have HK8o := Lib.hid (fun V (h : Below w.heap.size w V) => clear_own zs ys za ya zc yc V hzm hym (s2.kept h) (s1.kept h))
  have HK15 := Lib.hid (fun V (h : Below w.heap.size w V) => strict_own xs ys xa ya xc yc V hxm hym (s0.kept h) (s1.kept h))
  have HK15o := Lib.hid (fun V (h : Below w.heap.size w V) => strict_own zs ys za ya zc yc V hzm hym (s2.kept h) (s1.kept h))
  have HK25 := Lib.hid (fun V (h : Below w.heap.size w V) => join_dis c e V (hc.kept h) (he.kept h))
  have HK29 := Lib.hid (fun V (h : Below w.heap.size w V) (h2 : c.es.length ≤ 5000) => end_any c V (hc.kept h) h2)
  clear s0 n0 m0 z0 s1 n1 m1 z1 s2 n2 m2 z2 hc he hxm hym hzm
  unfold Con.agg Ent.agg at *
  go_enter Try.func6, Try.ntmps6
  have HS0 := Lib.hid (show Bs w c e ((w.alloc (.cells #[.int .i64 c.num, .int .i64 c.kind, .int .i64 c.by', .int .i64 c.dl, .int .i64 c.to', .int .i64 c.want, .int .u64 c.price, .int .u64 c.reserve, .int .u64 c.step, .int .i64 c.of', .slice c.ea c.es.length c.ec] 51)).alloc (.cells #[.int .i64 e.acc, .int .i64 e.item, .int .u64 e.coins, .int .u64 e.price, .slice e.wa e.ws.length e.wc] 53)) from
    ⟨alloc_old (alloc_at rfl), alloc_at (by simp), ((Below.refl w.heap.size w).alloc (Nat.le_refl _) _).alloc (by simp) _⟩)
  go_wp2_with fail
  refine (awake_any _).mono ?_
  rintro r0 w1 ⟨rfl, hb⟩
  have HS1 := Lib.hid (HS0.out.kept hb)
  clear hb HS0
  obtain ⟨p0, p1, p2, p3, p4, p5, p6, p7, p8, p9, p10⟩ := HS1.out.bx.cells
  by_cases h0 : 3000 < xs.length
  · have t0 : decide ((xs.length : Int) > 3000) = true := by simp; omega
    have t0n : decide (3000 < xs.length) = true := by simp; omega
    clear h0
    go_wp2
    go_ret
    exact ⟨rfl, HS1.out.bel⟩
  have t0 : decide ((xs.length : Int) > 3000) = false := by simp; omega
  have t0n : decide (3000 < xs.length) = false := by simp; omega
  have HLX := Lib.hid (show xs.length ≤ 3000 by omega)
  clear h0
  by_cases h1 : 3000 < ys.length
  · have t1 : decide ((ys.length : Int) > 3000) = true := by simp; omega
    have t1n : decide (3000 < ys.length) = true := by simp; omega
    clear h1
    go_wp2
    go_ret
    exact ⟨rfl, HS1.out.bel⟩
  have t1 : decide ((ys.length : Int) > 3000) = false := by simp; omega
  have t1n : decide (3000 < ys.length) = false := by simp; omega
  have HLY := Lib.hid (show ys.length ≤ 3000 by omega)
  clear h1
  by_cases h2 : 3000 < zs.length
  · have t2 : decide ((zs.length : Int) > 3000) = true := by simp; omega
    have t2n : decide (3000 < zs.length) = true := by simp; omega
    clear h2
    go_wp2
    go_ret
    exact ⟨rfl, HS1.out.bel⟩
  have t2 : decide ((zs.length : Int) > 3000) = false := by simp; omega
  have t2n : decide (3000 < zs.length) = false := by simp; omega
  have HLZ := Lib.hid (show zs.length ≤ 3000 by omega)
  clear h2
  by_cases h3 : 3000 < c.es.length
  · have t3 : decide ((c.es.length : Int) > 3000) = true := by simp; omega
    have t3n : decide (3000 < c.es.length) = true := by simp; omega
    clear h3
    go_wp2
    go_ret
    exact ⟨rfl, HS1.out.bel⟩
  have t3 : decide ((c.es.length : Int) > 3000) = false := by simp; omega
  have t3n : decide (3000 < c.es.length) = false := by simp; omega
  have HLE := Lib.hid (show c.es.length ≤ 3000 by omega)
  clear h3
  have HD0 := Lib.hid (DS.nil w1.heap.size w1)
  have HGE1 := Lib.hid HS1.out.ge
  go_wp2_with fail
  clear p0 p1 p2 p3 p4 p5 p6 p7 p8 p9 p10 t0 t1 t2 t3 t0n t1n t2n t3n
  refine (HK8.out w1 HS1.out.bel).mono ?_
  rintro r0 u1 ⟨g1, h1, L1, M1, p1, q1, rfl, hb, hv, ho⟩
  have HB1 := Lib.hid hb
  have HO1 := Lib.hid ho
  clear hb ho hv
  go_wp2_with ((with_reducible refine at_store_op ?_); refine wpList_store_lit 27 u1.heap.size 0 #[r3 g1, r3 h1, .int .u64 p1, .int .u64 q1] (.agg #[r3 g1, r3 h1, .int .u64 p1, .int .u64 q1]) (alloc_at rfl) sz27 (Nat.le_of_ble_eq_true rfl) rfl rfl ?_ ?_ ?_; exact rfl; exact rfl; intro w2 hp1)
  have HX1 := Lib.hid (show Below u1.heap.size u1 w2 from hp1.below ((Below.refl u1.heap.size u1).alloc (Nat.le_refl _) _) ((Below.refl u1.heap.size u1).alloc (Nat.le_refl _) _).size (Nat.le_refl _))
  have HD1 := Lib.hid (show DS w1.heap.size w2 [(u1.heap.size, g1, h1)] from DS.push HD0.out (Nat.le_refl _) HB1.out HO1.out HX1.out hp1.at')
  have HS2 := Lib.hid ((HS1.out.kept HB1.out).kept HX1.out)
  have HZ1 := Lib.hid (show w1.heap.size ≤ w2.heap.size from Nat.le_trans HB1.out.size HX1.out.size)
  clear hp1 HD0 HS1
  refine (HK8o.out w2 HS2.out.bel).mono ?_
  rintro r0 u2 ⟨g2, h2, L2, M2, p2, q2, rfl, hb, hv, ho⟩
  have HB2 := Lib.hid hb
  have HO2 := Lib.hid ho
  clear hb ho hv
  go_wp2_with ((with_reducible refine at_store_op ?_); refine wpList_store_lit 27 u2.heap.size 0 #[r3 g2, r3 h2, .int .u64 p2, .int .u64 q2] (.agg #[r3 g2, r3 h2, .int .u64 p2, .int .u64 q2]) (alloc_at rfl) sz27 (Nat.le_of_ble_eq_true rfl) rfl rfl ?_ ?_ ?_; exact rfl; exact rfl; intro w3 hp2)
  have HX2 := Lib.hid (show Below u2.heap.size u2 w3 from hp2.below ((Below.refl u2.heap.size u2).alloc (Nat.le_refl _) _) ((Below.refl u2.heap.size u2).alloc (Nat.le_refl _) _).size (Nat.le_refl _))
  have HD2 := Lib.hid (show DS w1.heap.size w3 [(u1.heap.size, g1, h1), (u2.heap.size, g2, h2)] from DS.push HD1.out HZ1.out HB2.out HO2.out HX2.out hp2.at')
  have HS3 := Lib.hid ((HS2.out.kept HB2.out).kept HX2.out)
  have HZ2 := Lib.hid (show w1.heap.size ≤ w3.heap.size from Nat.le_trans HZ1.out (Nat.le_trans HB2.out.size HX2.out.size))
  clear hp2 HD1 HS2
  refine (HK15.out w3 HS3.out.bel).mono ?_
  rintro r0 u3 ⟨g3, h3, L3, M3, p3, q3, rfl, hb, ho⟩
  have HB3 := Lib.hid hb
  have HO3 := Lib.hid ho
  clear hb ho
  go_wp2_with ((with_reducible refine at_store_op ?_); refine wpList_store_lit 27 u3.heap.size 0 #[r3 g3, r3 h3, .int .u64 p3, .int .u64 q3] (.agg #[r3 g3, r3 h3, .int .u64 p3, .int .u64 q3]) (alloc_at rfl) sz27 (Nat.le_of_ble_eq_true rfl) rfl rfl ?_ ?_ ?_; exact rfl; exact rfl; intro w4 hp3)
  have HX3 := Lib.hid (show Below u3.heap.size u3 w4 from hp3.below ((Below.refl u3.heap.size u3).alloc (Nat.le_refl _) _) ((Below.refl u3.heap.size u3).alloc (Nat.le_refl _) _).size (Nat.le_refl _))
  have HD3 := Lib.hid (show DS w1.heap.size w4 [(u1.heap.size, g1, h1), (u2.heap.size, g2, h2), (u3.heap.size, g3, h3)] from DS.push HD2.out HZ2.out HB3.out HO3.out HX3.out hp3.at')
  have HS4 := Lib.hid ((HS3.out.kept HB3.out).kept HX3.out)
  have HZ3 := Lib.hid (show w1.heap.size ≤ w4.heap.size from Nat.le_trans HZ2.out (Nat.le_trans HB3.out.size HX3.out.size))
  clear hp3 HD2 HS3
  refine (HK15o.out w4 HS4.out.bel).mono ?_
  rintro r0 u4 ⟨g4, h4, L4, M4, p4, q4, rfl, hb, ho⟩
  have HB4 := Lib.hid hb
  have HO4 := Lib.hid ho
  clear hb ho
  go_wp2_with ((with_reducible refine at_store_op ?_); refine wpList_store_lit 27 u4.heap.size 0 #[r3 g4, r3 h4, .int .u64 p4, .int .u64 q4] (.agg #[r3 g4, r3 h4, .int .u64 p4, .int .u64 q4]) (alloc_at rfl) sz27 (Nat.le_of_ble_eq_true rfl) rfl rfl ?_ ?_ ?_; exact rfl; exact rfl; intro w5 hp4)
  have HX4 := Lib.hid (show Below u4.heap.size u4 w5 from hp4.below ((Below.refl u4.heap.size u4).alloc (Nat.le_refl _) _) ((Below.refl u4.heap.size u4).alloc (Nat.le_refl _) _).size (Nat.le_refl _))
  have HD4 := Lib.hid (show DS w1.heap.size w5 [(u1.heap.size, g1, h1), (u2.heap.size, g2, h2), (u3.heap.size, g3, h3), (u4.heap.size, g4, h4)] from DS.push HD3.out HZ3.out HB4.out HO4.out HX4.out hp4.at')
  have HS5 := Lib.hid ((HS4.out.kept HB4.out).kept HX4.out)
  have HZ4 := Lib.hid (show w1.heap.size ≤ w5.heap.size from Nat.le_trans HZ3.out (Nat.le_trans HB4.out.size HX4.out.size))
  clear hp4 HD3 HS4
  refine (HK15.out w5 HS5.out.bel).mono ?_
  rintro r0 u5 ⟨g5, h5, L5, M5, p5, q5, rfl, hb, ho⟩
  have HB5 := Lib.hid hb
  have HO5 := Lib.hid ho
  clear hb ho
  go_wp2_with ((with_reducible refine at_store_op ?_); refine wpList_store_lit 27 u5.heap.size 0 #[r3 g5, r3 h5, .int .u64 p5, .int .u64 q5] (.agg #[r3 g5, r3 h5, .int .u64 p5, .int .u64 q5]) (alloc_at rfl) sz27 (Nat.le_of_ble_eq_true rfl) rfl rfl ?_ ?_ ?_; exact rfl; exact rfl; intro w6 hp5)
  have HX5 := Lib.hid (show Below u5.heap.size u5 w6 from hp5.below ((Below.refl u5.heap.size u5).alloc (Nat.le_refl _) _) ((Below.refl u5.heap.size u5).alloc (Nat.le_refl _) _).size (Nat.le_refl _))
  have HD5 := Lib.hid (show DS w1.heap.size w6 [(u1.heap.size, g1, h1), (u2.heap.size, g2, h2), (u3.heap.size, g3, h3), (u4.heap.size, g4, h4), (u5.heap.size, g5, h5)] from DS.push HD4.out HZ4.out HB5.out HO5.out HX5.out hp5.at')
  have HS6 := Lib.hid ((HS5.out.kept HB5.out).kept HX5.out)
  have HZ5 := Lib.hid (show w1.heap.size ≤ w6.heap.size from Nat.le_trans HZ4.out (Nat.le_trans HB5.out.size HX5.out.size))
  clear hp5 HD4 HS5
  refine (HK8.out w6 HS6.out.bel).mono ?_
  rintro r0 u6 ⟨g6, h6, L6, M6, p6, q6, rfl, hb, hv, ho⟩
  have HB6 := Lib.hid hb
  have HO6 := Lib.hid ho
  have HV6 := Lib.hid hv
  clear hb ho hv
  go_wp2_with ((with_reducible refine at_store_op ?_); refine wpList_store_lit 27 u6.heap.size 0 #[r3 g6, r3 h6, .int .u64 p6, .int .u64 q6] (.agg #[r3 g6, r3 h6, .int .u64 p6, .int .u64 q6]) (alloc_at rfl) sz27 (Nat.le_of_ble_eq_true rfl) rfl rfl ?_ ?_ ?_; exact rfl; exact rfl; intro w7 hp6; revert hp6)
  intro hp6
  have HX6 := Lib.hid (show Below u6.heap.size u6 w7 from hp6.below ((Below.refl u6.heap.size u6).alloc (Nat.le_refl _) _) ((Below.refl u6.heap.size u6).alloc (Nat.le_refl _) _).size (Nat.le_refl _))
  have HD6 := Lib.hid (show DS w1.heap.size w7 [(u1.heap.size, g1, h1), (u2.heap.size, g2, h2), (u3.heap.size, g3, h3), (u4.heap.size, g4, h4), (u5.heap.size, g5, h5), (u6.heap.size, g6, h6)] from DS.push HD5.out HZ5.out HB6.out HO6.out HX6.out hp6.at')
  have HS7 := Lib.hid ((HS6.out.kept HB6.out).kept HX6.out)
  have HZ6 := Lib.hid (show w1.heap.size ≤ w7.heap.size from Nat.le_trans HZ5.out (Nat.le_trans HB6.out.size HX6.out.size))
  clear hp6 HD5 HS6
  clear HK15 HK15o HK8o
  obtain ⟨ga1, gn1, gk1⟩ := g1
  obtain ⟨ha1, hn1, hk1⟩ := h1
  obtain ⟨ga2, gn2, gk2⟩ := g2
  obtain ⟨ha2, hn2, hk2⟩ := h2
  obtain ⟨ga3, gn3, gk3⟩ := g3
  obtain ⟨ha3, hn3, hk3⟩ := h3
  obtain ⟨ga4, gn4, gk4⟩ := g4
  obtain ⟨ha4, hn4, hk4⟩ := h4
  obtain ⟨ga5, gn5, gk5⟩ := g5
  obtain ⟨ha5, hn5, hk5⟩ := h5
  obtain ⟨ga6, gn6, gk6⟩ := g6
  obtain ⟨ha6, hn6, hk6⟩ := h6
  have HOA := Lib.hid (HO6.out.kept HX6.out)
  have HSA := Lib.hid (sl3 (show w7.ownsRow w6.heap.size 3 1 (.slice ga6 gn6 gk6) gn6 (vI L6) from HOA.out.o1))
  have HSB := Lib.hid (sl3 (show w7.ownsRow w6.heap.size 3 1 (.slice ha6 hn6 hk6) hn6 (vI M6) from HOA.out.o2))
  have HN6 := Lib.hid (show gn6 = L6.length ∧ hn6 = M6.length ∧ gn6 ≤ 17592186043904 ∧ hn6 ≤ 17592186043904 from ⟨HO6.out.l1, HO6.out.l2, by have h1 := HO6.out.l1; have h2 := HO6.out.mx; simp only at h1; omega, by have h1 := HO6.out.l2; have h2 := HO6.out.mx; simp only at h1; omega⟩)
  have z0 : w7.cell? ⟨u6.heap.size, 0, none⟩ = some (.slice ga6 gn6 gk6) := (HD6.out.cells u6.heap.size (ga6, gn6, gk6) (ha6, hn6, hk6) (by simp)).1
  have h63 : 0 + gn6 ≤ maxLen := by unfold maxLen; have := HN6.out; omega
  have hby : (0 + gn6) * 8 ≤ 140737488355328 := by have := HN6.out; omega
  clear HO1 HO2 HO3 HO4 HO5 HO6 HB1 HB2 HB3 HB4 HB5 HB6 HX1 HX2 HX3 HX4 HX5
  go_wp2_with (at_builtin; refine wpList_append_sl rfl _ _ 24 rfl w7.heap.size 3 (.int .i64 0) 1 8 Try.underlying24 infoI rfl (by decide) (.slice none 0 0) 0 [] rfl (World.ownsRow_nil _ _ _ _) ga6 gn6 gk6 (vI L6) rfl HSA.out.2.1 HSA.out.2.2 HSA.out.1 (oneCell_vI _) h63 hby (Nat.le_refl _) ?a1)
  intro vw w8 how hgw
  have hb8 : Below w7.heap.size w7 w8 := (Below.refl _ _).grown hgw (Nat.le_refl _) (fun k hk => by cases hk)
  obtain ⟨aw, cw, hvw, _, _, _⟩ := Go.K.owns_slice how
  subst hvw
  have HOW := Lib.hid (show w8.ownsRow w7.heap.size 3 1 (.slice aw gn6 cw) gn6 (vI L6) from how)
  have HD7 := Lib.hid (HD6.out.kept hb8)
  have HS8 := Lib.hid (HS7.out.kept hb8)
  have HB8 := Lib.hid hb8
  have HSB8 := Lib.hid (HSB.out.1.kept hb8)
  have z1 : w8.cell? ⟨u6.heap.size, 1, none⟩ = some (.slice ha6 hn6 hk6) := (HD7.out.cells u6.heap.size (ga6, gn6, gk6) (ha6, hn6, hk6) (by simp)).2
  have h63 : 0 + hn6 ≤ maxLen := by unfold maxLen; have := HN6.out; omega
  have hby : (0 + hn6) * 8 ≤ 140737488355328 := by have := HN6.out; omega
  clear how hgw hb8 z0 HS7
  go_wp2_with (at_builtin; refine wpList_append_sl rfl _ _ 24 rfl w8.heap.size 3 (.int .i64 0) 1 8 Try.underlying24 infoI rfl (by decide) (.slice none 0 0) 0 [] rfl (World.ownsRow_nil _ _ _ _) ha6 hn6 hk6 (vI M6) rfl HSB.out.2.1 HSB.out.2.2 HSB8.out (oneCell_vI _) h63 hby (Nat.le_refl _) ?a2)
  intro vx w9 hox hgx
  have hb9 : Below w8.heap.size w8 w9 := (Below.refl _ _).grown hgx (Nat.le_refl _) (fun k hk => by cases hk)
  obtain ⟨ax, cx, hvx, _, _, _⟩ := Go.K.owns_slice hox
  subst hvx
  have HOX := Lib.hid (show w9.ownsRow w8.heap.size 3 1 (.slice ax hn6 cx) hn6 (vI M6) from hox)
  have HOW9 := Lib.hid (owns_below (B := 0) HOW.out hb9)
  have HDD := Lib.hid (HD7.out.kept hb9)
  have HS9 := Lib.hid (HS8.out.kept hb9)
  have HB9' := Lib.hid hb9
  have HZW := Lib.hid (show w1.heap.size ≤ w7.heap.size ∧ w7.heap.size ≤ w8.heap.size ∧ w8.heap.size ≤ w9.heap.size from ⟨HZ6.out, HB8.out.size, hb9.size⟩)
  clear hox hgx hb9 z1 h63 hby HS8 HD7 HSA HSB HSB8
  have z1 : w9.cell? ⟨u1.heap.size, 0, none⟩ = some (.slice ga1 gn1 gk1) := (HDD.out.cells u1.heap.size (ga1, gn1, gk1) (ha1, hn1, hk1) (by simp)).1
  have y1 : w9.cell? ⟨u1.heap.size, 1, none⟩ = some (.slice ha1 hn1 hk1) := (HDD.out.cells u1.heap.size (ga1, gn1, gk1) (ha1, hn1, hk1) (by simp)).2
  have z2 : w9.cell? ⟨u2.heap.size, 0, none⟩ = some (.slice ga2 gn2 gk2) := (HDD.out.cells u2.heap.size (ga2, gn2, gk2) (ha2, hn2, hk2) (by simp)).1
  have y2 : w9.cell? ⟨u2.heap.size, 1, none⟩ = some (.slice ha2 hn2 hk2) := (HDD.out.cells u2.heap.size (ga2, gn2, gk2) (ha2, hn2, hk2) (by simp)).2
  have z3 : w9.cell? ⟨u3.heap.size, 0, none⟩ = some (.slice ga3 gn3 gk3) := (HDD.out.cells u3.heap.size (ga3, gn3, gk3) (ha3, hn3, hk3) (by simp)).1
  have y3 : w9.cell? ⟨u3.heap.size, 1, none⟩ = some (.slice ha3 hn3 hk3) := (HDD.out.cells u3.heap.size (ga3, gn3, gk3) (ha3, hn3, hk3) (by simp)).2
  have z4 : w9.cell? ⟨u4.heap.size, 0, none⟩ = some (.slice ga4 gn4 gk4) := (HDD.out.cells u4.heap.size (ga4, gn4, gk4) (ha4, hn4, hk4) (by simp)).1
  have y4 : w9.cell? ⟨u4.heap.size, 1, none⟩ = some (.slice ha4 hn4 hk4) := (HDD.out.cells u4.heap.size (ga4, gn4, gk4) (ha4, hn4, hk4) (by simp)).2
  have z5 : w9.cell? ⟨u5.heap.size, 0, none⟩ = some (.slice ga5 gn5 gk5) := (HDD.out.cells u5.heap.size (ga5, gn5, gk5) (ha5, hn5, hk5) (by simp)).1
  have y5 : w9.cell? ⟨u5.heap.size, 1, none⟩ = some (.slice ha5 hn5 hk5) := (HDD.out.cells u5.heap.size (ga5, gn5, gk5) (ha5, hn5, hk5) (by simp)).2
  have z6 : w9.cell? ⟨u6.heap.size, 0, none⟩ = some (.slice ga6 gn6 gk6) := (HDD.out.cells u6.heap.size (ga6, gn6, gk6) (ha6, hn6, hk6) (by simp)).1
  have y6 : w9.cell? ⟨u6.heap.size, 1, none⟩ = some (.slice ha6 hn6 hk6) := (HDD.out.cells u6.heap.size (ga6, gn6, gk6) (ha6, hn6, hk6) (by simp)).2
  have HFAM0 := Lib.hid (show Fam w1.heap.size w9 [(ga1, gn1, gk1), (ha1, hn1, hk1), (ga2, gn2, gk2), (ha2, hn2, hk2), (ga3, gn3, gk3), (ha3, hn3, hk3), (ga4, gn4, gk4), (ha4, hn4, hk4), (ga5, gn5, gk5), (ha5, hn5, hk5), (ga6, gn6, gk6), (ha6, hn6, hk6)] from HDD.out.fam)
  have HMX0 := Lib.hid (show ∀ r ∈ ([(ga1, gn1, gk1), (ha1, hn1, hk1), (ga2, gn2, gk2), (ha2, hn2, hk2), (ga3, gn3, gk3), (ha3, hn3, hk3), (ga4, gn4, gk4), (ha4, hn4, hk4), (ga5, gn5, gk5), (ha5, hn5, hk5), (ga6, gn6, gk6), (ha6, hn6, hk6)] : List R3), r.2.1 ≤ 17592186043904 from HDD.out.mx)
  have HLS7 := Lib.hid (show ∀ b, ownS [(ga1, gn1, gk1), (ha1, hn1, hk1), (ga2, gn2, gk2), (ha2, hn2, hk2), (ga3, gn3, gk3), (ha3, hn3, hk3), (ga4, gn4, gk4), (ha4, hn4, hk4), (ga5, gn5, gk5), (ha5, hn5, hk5), (ga6, gn6, gk6), (ha6, hn6, hk6)] b → w1.heap.size ≤ b ∧ b < w7.heap.size from fun b h => HD6.out.fam.lt h)
  have HBAL := Lib.hid (show Below w9.heap.size w9 (w9.alloc (.cells #[.slice ga1 gn1 gk1, .slice ha1 hn1 hk1, .slice ga2 gn2 gk2, .slice ha2 hn2 hk2, .slice ga3 gn3 gk3, .slice ha3 hn3 hk3, .slice ga4 gn4 gk4, .slice ha4 hn4 hk4, .slice ga5 gn5 gk5, .slice ha5 hn5 hk5, .slice ga6 gn6 gk6, .slice ha6 hn6 hk6] 24)) from (Below.refl _ _).alloc (Nat.le_refl _) _)
  have HSAL := Lib.hid (HS9.out.kept HBAL.out)
  obtain ⟨p0, p1, p2, p3, p4, p5, p6, p7, p8, p9, p10⟩ := HSAL.out.bx.cells
  obtain ⟨q0, q1, q2, q3, q4⟩ := HSAL.out.ex.cells
  go_wp2_with fail
  clear z1 z2 z3 z4 z5 z6 y1 y2 y3 y4 y5 y6 p0 p1 p2 p3 p4 p5 p6 p7 p8 p9 p10 q0 q1 q2 q3 q4 HDD HD6
  obtain ⟨LS, hLS⟩ : ∃ LS : List R3, LS = [(ga1, gn1, gk1), (ha1, hn1, hk1), (ga2, gn2, gk2), (ha2, hn2, hk2), (ga3, gn3, gk3), (ha3, hn3, hk3), (ga4, gn4, gk4), (ha4, hn4, hk4), (ga5, gn5, gk5), (ha5, hn5, hk5), (ga6, gn6, gk6), (ha6, hn6, hk6)] := ⟨_, rfl⟩
  have HLL := Lib.hid (show 12 = LS.length ∧ 12 ≤ 5000000 from by rw [hLS]; exact ⟨rfl, by decide⟩)
  have HOA := Lib.hid (show (w9.alloc (.cells #[.slice ga1 gn1 gk1, .slice ha1 hn1 hk1, .slice ga2 gn2 gk2, .slice ha2 hn2 hk2, .slice ga3 gn3 gk3, .slice ha3 hn3 hk3, .slice ga4 gn4 gk4, .slice ha4 hn4 hk4, .slice ga5 gn5 gk5, .slice ha5 hn5 hk5, .slice ga6 gn6 gk6, .slice ha6 hn6 hk6] 24)).ownsRow w9.heap.size 24 1 (.slice (some ⟨w9.heap.size, 0, none⟩) 12 12) 12 (LS.map r3) from by
    rw [hLS]
    exact ⟨rfl, .inr ⟨w9.heap.size, 12, _, rfl, Nat.le_refl _, alloc_at rfl, Nat.le_refl _, by decide, rfl, rfl⟩⟩)
  rw [← hLS] at HFAM0 HMX0 HLS7
  obtain ⟨wA, hwA⟩ : ∃ wA, wA = w9.alloc (.cells #[.slice ga1 gn1 gk1, .slice ha1 hn1 hk1, .slice ga2 gn2 gk2, .slice ha2 hn2 hk2, .slice ga3 gn3 gk3, .slice ha3 hn3 hk3, .slice ga4 gn4 gk4, .slice ha4 hn4 hk4, .slice ga5 gn5 gk5, .slice ha5 hn5 hk5, .slice ga6 gn6 gk6, .slice ha6 hn6 hk6] 24) := ⟨_, rfl⟩
  rw [← hwA] at HBAL HSAL HOA ⊢
  have HZAL := Lib.hid (show w9.heap.size ≤ wA.heap.size from HBAL.out.size)
  clear hwA hLS
  -- the joins
  have HSZA := Lib.hid HSAL.out.ge
  have K25 := Lib.hid (HK25.out wA HSAL.out.bel)
  refine K25.out.mono ?_
  rintro r0 w10 ⟨d1, rfl, hb10, hn1, hd1, hx1⟩
  have HD1 := Lib.hid (And.intro hd1 hx1)
  have HNC1 := Lib.hid hn1
  have HRD1 := Lib.hid (show (∀ x ∈ d1.es, ∀ b, (r3 x.w3).ownBlock = some b → wA.heap.size ≤ b ∧ b < w10.heap.size) ∧ ∀ b, (Value.slice d1.ea d1.es.length d1.ec).ownBlock = some b → wA.heap.size ≤ b ∧ b < w10.heap.size from ⟨fun x hx b h => (hn1.ents x hx).row.lt b h, fun b h => hn1.row.lt b h⟩)
  have HB10 := Lib.hid hb10
  have HS10 := Lib.hid (HSAL.out.kept hb10)
  clear hb10 hn1 hd1 hx1 K25
  go_wp2_with ((with_reducible refine at_store_op ?_); refine wpList_store_lit 51 w10.heap.size 0 #[.int .i64 d1.num, .int .i64 d1.kind, .int .i64 d1.by', .int .i64 d1.dl, .int .i64 d1.to', .int .i64 d1.want, .int .u64 d1.price, .int .u64 d1.reserve, .int .u64 d1.step, .int .i64 d1.of', .slice d1.ea d1.es.length d1.ec] d1.agg (alloc_at rfl) szC (Nat.le_of_ble_eq_true rfl) rfl rfl ?_ ?_ ?_; exact rfl; exact rfl; intro w11 hp11; have hb11 : Below w10.heap.size w10 w11 := hp11.below ((Below.refl w10.heap.size w10).alloc (Nat.le_refl _) _) ((Below.refl w10.heap.size w10).alloc (Nat.le_refl _) _).size (Nat.le_refl _); have HS11 := Lib.hid (HS10.out.kept hb11); obtain ⟨p0, p1, p2, p3, p4, p5, p6, p7, p8, p9, p10⟩ := HS11.out.bx.cells; obtain ⟨q0, q1, q2, q3, q4⟩ := HS11.out.ex.cells)
  have HBX := Lib.hid (show Box w11 w10.heap.size d1 from hp11.at')
  have HB11 := Lib.hid hb11
  have HNC1a := Lib.hid (HNC1.out.kept hb11)
  obtain ⟨bx, hbx⟩ : ∃ bx, bx = w10.heap.size := ⟨_, rfl⟩
  have HBXE := Lib.hid hbx
  rw [← hbx] at HBX ⊢
  have K25 := Lib.hid (HK25.out w11 HS11.out.bel)
  clear hp11 hb11 HNC1 HS10 hbx
  refine K25.out.mono ?_
  rintro r0 w12 ⟨d2, rfl, hb12, hn2, hd2, hx2⟩
  have HD2 := Lib.hid (And.intro hd2 hx2)
  have HNC2 := Lib.hid hn2
  have HB12 := Lib.hid hb12
  have HS12 := Lib.hid (HS11.out.kept hb12)
  have HNC1b := Lib.hid (HNC1a.out.kept hb12)
  have HBX12 := Lib.hid (HBX.out.kept hb12)
  clear hb12 hn2 hd2 hx2 K25 p0 p1 p2 p3 p4 p5 p6 p7 p8 p9 p10 q0 q1 q2 q3 q4 HNC1a HBX HS11
  go_wp2_with ((with_reducible refine at_store_op ?_); refine wpList_store_lit 51 w12.heap.size 0 #[.int .i64 d2.num, .int .i64 d2.kind, .int .i64 d2.by', .int .i64 d2.dl, .int .i64 d2.to', .int .i64 d2.want, .int .u64 d2.price, .int .u64 d2.reserve, .int .u64 d2.step, .int .i64 d2.of', .slice d2.ea d2.es.length d2.ec] d2.agg (alloc_at rfl) szC (Nat.le_of_ble_eq_true rfl) rfl rfl ?_ ?_ ?_; exact rfl; exact rfl; intro w13 hp13)
  have hb13 : Below w12.heap.size w12 w13 := hp13.below ((Below.refl w12.heap.size w12).alloc (Nat.le_refl _) _) ((Below.refl w12.heap.size w12).alloc (Nat.le_refl _) _).size (Nat.le_refl _)
  have HBY := Lib.hid (show Box w13 w12.heap.size d2 from hp13.at')
  have HBXc := Lib.hid (HBX12.out.kept hb13)
  have HN1c := Lib.hid (HNC1b.out.kept hb13)
  have HN2c := Lib.hid (HNC2.out.kept hb13)
  have HB69 := HBAL.out
  have hb6a := HB69.trans (HB10.out.mono HB69.size)
  have hb6b := hb6a.trans (HB11.out.mono hb6a.size)
  have hb6c := hb6b.trans (HB12.out.mono hb6b.size)
  have HB6D := Lib.hid (hb6c.trans (hb13.mono hb6c.size))
  have hoa := owns_below (B := 0) (owns_below (B := 0) (owns_below (B := 0) (owns_below (B := 0) HOA.out HB10.out) HB11.out) HB12.out) hb13
  have HG0 := Lib.hid (show Gx w9 w13 w13 (.slice (some ⟨w9.heap.size, 0, none⟩) 12 12) (12 + 2 * 0) ((LS ++ WL d1 d2 0).map r3) from ⟨by rw [show LS ++ WL d1 d2 0 = LS by unfold WL; simp]; exact hoa, HB6D.out, Kp.refl _⟩)
  have HBYX := Lib.hid (show bx < w12.heap.size ∧ wA.heap.size ≤ bx from ⟨lt_row HBX12.out, by rw [HBXE.out]; exact HB10.out.size⟩)
  have HW13 := Lib.hid (show wA.heap.size ≤ w10.heap.size ∧ w10.heap.size ≤ w11.heap.size ∧ w11.heap.size ≤ w12.heap.size ∧ w12.heap.size ≤ w13.heap.size from ⟨HB10.out.size, HB11.out.size, HB12.out.size, hb13.size⟩)
  obtain ⟨by', hby'⟩ : ∃ by', by' = w12.heap.size := ⟨_, rfl⟩
  have HBYE := Lib.hid hby'
  rw [← hby'] at HBY ⊢
  have e12 : d1.es.length = d2.es.length := by
    have := congrArg (fun x => x.2.2.length) (HD1.out.1.trans HD2.out.1.symm)
    simpa [Con.d] using this
  have HLEN := Lib.hid (And.intro e12 (And.intro (lens HD1.out.1) (lens HD2.out.1)))
  have hd13 : d1.es.length ≤ 3001 := by
    have h1 := lens HD1.out.1
    have h2 := HLE.out
    by_cases h : joinV c e = 0
    · have := h1.1 h; omega
    · have := h1.2 h; omega
  have HD13 := Lib.hid hd13
  clear hp13 hb13 HB69 hb6a hb6b hb6c hoa hby' e12 hd13 HBX12 HNC1b HNC2 HB10 HB11 HB12 HOA HBAL
  go_loopw [19, 28] (fun v' x30 V => ∃ (i : Nat) (v : Value), v = v' ∧ i ≤ d1.es.length ∧ x30 = .int .i64 i ∧ Gx w9 w13 V v (12 + 2 * i) ((LS ++ WL d1 d2 i).map r3)) (fun _ x30 _ => d1.es.length - (intOf x30).toNat)
  case atStart => exact ⟨0, _, rfl, Nat.zero_le _, rfl, HG0.out⟩
  case round =>
    clear HG0
    obtain ⟨i, v, hv, hi, rfl, hgx⟩ := hrel
    subst hv
    have HG := Lib.hid hgx
    clear hgx
    by_cases hlt : i < d1.es.length
    case pos =>
      obtain ⟨o1, cs1, ha1, hr1, hc1⟩ := NewC.at_ent HN1c.out i hlt
      have hlt2 : i < d2.es.length := by have := HLEN.out.1; omega
      obtain ⟨o2, cs2, ha2, hr2, hc2⟩ := NewC.at_ent HN2c.out i hlt2
      have HW1 := Lib.hid (w3_get d1 i hlt)
      have HW2 := Lib.hid (w3_get d2 i hlt2)
      obtain ⟨x1, hx1⟩ : ∃ x, x = d1.es[i].wa := ⟨_, rfl⟩
      obtain ⟨m1, hm1⟩ : ∃ x, x = d1.es[i].ws.length := ⟨_, rfl⟩
      obtain ⟨k1, hk1⟩ : ∃ x, x = d1.es[i].wc := ⟨_, rfl⟩
      obtain ⟨x2, hx2⟩ : ∃ x, x = d2.es[i].wa := ⟨_, rfl⟩
      obtain ⟨m2, hm2⟩ : ∃ x, x = d2.es[i].ws.length := ⟨_, rfl⟩
      obtain ⟨k2, hk2⟩ : ∃ x, x = d2.es[i].wc := ⟨_, rfl⟩
      rw [← hx1, ← hm1, ← hk1] at hc1 HW1
      rw [← hx2, ← hm2, ← hk2] at hc2 HW2
      have hb1 : w13.cell? ⟨bx, 10, none⟩ = some (.slice (some ⟨o1, 0, none⟩) d1.es.length d1.ec) := by rw [← ha1]; exact HBXc.out.cells.2.2.2.2.2.2.2.2.2.2
      have hb2 : w13.cell? ⟨by', 10, none⟩ = some (.slice (some ⟨o2, 0, none⟩) d2.es.length d2.ec) := by rw [← ha2]; exact HBY.out.cells.2.2.2.2.2.2.2.2.2.2
      have HCL := Lib.hid (fun V (h : Kp w13 V) => show V.cell? ⟨bx, 10, none⟩ = some (.slice (some ⟨o1, 0, none⟩) d1.es.length d1.ec) ∧ V.cell? ⟨o1, i * 5 + 4, none⟩ = some (.slice x1 m1 k1) ∧ V.cell? ⟨by', 10, none⟩ = some (.slice (some ⟨o2, 0, none⟩) d2.es.length d2.ec) ∧ V.cell? ⟨o2, i * 5 + 4, none⟩ = some (.slice x2 m2 k2) from
        ⟨h.cell HBXc.out (by decide) hb1, h.cell hr1 (by decide) hc1, h.cell HBY.out (by decide) hb2, h.cell hr2 (by decide) hc2⟩)
      obtain ⟨z1, z2, z3, z4⟩ := HCL.out wr HG.out.kp
      have t5 : decide ((i : Int) < (d1.es.length : Int)) = true := decide_eq_true (by omega)
      have t5n : decide (i < d1.es.length) = true := decide_eq_true hlt
      have i1 : (i : Int) < (d1.es.length : Int) := by omega
      have i2 : (i : Int) < (d2.es.length : Int) := by omega
      have w2 : IntKind.i64.wrap ((i : Int) + 1) = ((i + 1 : Nat) : Int) := by rw [IntKind.wrap_i64]; have := HD13.out; omega
      have hnb : 12 + 2 * i + 2 ≤ 6000000 := nbnd HLL.out.2 HD13.out hlt
      have h63 : 12 + 2 * i + 1 ≤ maxLen := Nat.le_trans (Nat.le_succ _) (Nat.le_trans hnb (by unfold maxLen; decide))
      have hby : (12 + 2 * i + 1) * 24 ≤ 140737488355328 := Nat.le_trans (Nat.mul_le_mul_right 24 (Nat.le_trans (Nat.le_succ _) hnb)) (by decide)
      have h63b : 12 + 2 * i + 1 + 1 ≤ maxLen := Nat.le_trans hnb (by unfold maxLen; decide)
      have hbyb : (12 + 2 * i + 1 + 1) * 24 ≤ 140737488355328 := Nat.le_trans (Nat.mul_le_mul_right 24 hnb) (by decide)
      clear hnb
      have HI := Lib.hid hlt
      have HVN := Lib.hid (show ∀ b, wr.heap.size ≤ b → v.ownBlock ≠ some b from fun b hb e => Nat.lt_irrefl _ (Nat.lt_of_lt_of_le (HG.out.own.lt b e).2 hb))
      have hG := HG.out
      obtain ⟨XS, hXS⟩ : ∃ XS, XS = (LS ++ WL d1 d2 i).map r3 := ⟨_, rfl⟩
      rw [← hXS] at hG
      have HXS := Lib.hid hXS
      clear hlt hlt2 hi hr1 hr2 hc1 hc2 hb1 hb2 hx1 hm1 hk1 hx2 hm2 hk2 ha1 ha2 hXS
      go_upto_region 20 with fail
      go_region_held3 (fun V => V.cell? ⟨bx, 10, none⟩ = some (.slice (some ⟨o1, 0, none⟩) d1.es.length d1.ec) ∧ V.cell? ⟨o1, i * 5 + 4, none⟩ = some (.slice x1 m1 k1) ∧ V.cell? ⟨by', 10, none⟩ = some (.slice (some ⟨o2, 0, none⟩) d2.es.length d2.ec) ∧ V.cell? ⟨o2, i * 5 + 4, none⟩ = some (.slice x2 m2 k2)) (first | assumption | exact HCL.out _ (by first | exact hG.drew.kp | exact hG.alloc.drew.kp | exact hG.alloc.alloc.drew.kp | exact hG2.kp | exact hG2.alloc.kp | exact hG.kp | exact hG.alloc.kp))
        ((first
          | (refine Gx.at (by first | exact hG.drew | exact hG.alloc.drew | exact hG.alloc.alloc.drew | exact hG | exact hG.alloc | exact hG.alloc.alloc) (fun hGw => ?_)
             refine step_append_sl_at (by rfl) _ _ 54 (by rfl) w9.heap.size 24 (.slice none 0 0) 1 24 Try.underlying54 liS (by rfl) (by decide) v (12 + 2 * i) XS (by rfl) hGw.own (some _) 1 1 [.slice x1 m1 k1] (by rfl) (fun h => by cases h) (by rfl) (by first | exact sl_drew1 (sl_new _ _ _ _) | exact sl_drew1 (sl_alloc1 (sl_new _ _ _ _)) | exact sl_drew1 (sl_new2 _ _ _ _ _) | exact sl_new _ _ _ _ | exact sl_alloc1 (sl_new _ _ _ _) | exact sl_new2 _ _ _ _ _) (one_sl _ _ _ _ rfl) h63 hby hGw.ge ?_
             intro v2 w2 ho2 hg2 hl2
             have hG2 := hGw.app ho2 hg2
             have hC2 := HCL.out w2 hG2.kp
             try (have hs2 : Sl w2 (some ⟨wr.heap.size, 0, none⟩) [.slice x2 m2 k2] := sl_grown1 (by first | exact sl_drew1 (sl_alloc1 (sl_new _ _ _ _)) | exact sl_alloc1 (sl_new _ _ _ _)) hg2 (HVN.out _ (Nat.le_refl _)))
             try (have hs3 : Sl w2 (some ⟨wr.heap.size + 1, 0, none⟩) [.slice x2 m2 k2] := sl_grown1 (by first | exact sl_drew1 (sl_new2 _ _ _ _ _) | exact sl_new2 _ _ _ _ _) hg2 (HVN.out _ (Nat.le_succ _)))
             clear hGw)
          | (refine Gx.at (by first | exact hG2 | exact hG2.alloc) (fun hGw => ?_)
             refine step_append_sl_at (by rfl) _ _ 54 (by rfl) w9.heap.size 24 (.slice none 0 0) 1 24 Try.underlying54 liS (by rfl) (by decide) v2 (12 + 2 * i + 1) (XS ++ [.slice x1 m1 k1]) (by rfl) hGw.own (some _) 1 1 [.slice x2 m2 k2] (by rfl) (fun h => by cases h) (by rfl) (by first | assumption | exact sl_new _ _ _ _) (one_sl _ _ _ _ rfl) h63b hbyb hGw.ge ?_
             intro v3 w3' ho3 hg3 hl3
             have hG3 := hGw.app ho3 hg3
             have hC3 := HCL.out w3' hG3.kp
             clear hGw)))
      all_goals
        have HG3 := Lib.hid (show Gx w9 w13 w3' v3 (12 + 2 * (i + 1)) ((LS ++ WL d1 d2 (i + 1)).map r3) from by
          have h := hG3
          rw [WL_succ, ← List.append_assoc, List.map_append, ← HXS.out, HW1.out, HW2.out]
          have e : 12 + 2 * (i + 1) = 12 + 2 * i + 1 + 1 := by omega
          rw [e]
          simp only [List.append_assoc] at h
          exact h)
        clear hG hG2 hG3 hC2 hC3
        go_wp2
        go_roundw
        case rel => exact ⟨i + 1, _, rfl, HI.out, by go_num, HG3.out⟩
        case measure => have := HI.out; simp [intOf]; omega
    case neg =>
      obtain rfl : i = d1.es.length := by omega
      have t5 : decide ((d1.es.length : Int) < (d1.es.length : Int)) = false := by simp
      have t5n : decide (d1.es.length < d1.es.length) = false := by simp
      have z1 : wr.cell? ⟨bx, 10, none⟩ = some (.slice d1.ea d1.es.length d1.ec) := (show Box wr bx d1 from HG.out.kp _ _ _ (by decide) HBXc.out).cells.2.2.2.2.2.2.2.2.2.2
      obtain ⟨wl, hwl⟩ : ∃ wl, wl = wr := ⟨_, rfl⟩
      subst hwl
      go_wp2
      clear z1 t5 t5n
      go_loopw [29, 30] (fun v' x30 V => ∃ (i : Nat) (v0 : Value), v0 = v' ∧ i ≤ c.es.length ∧ x30 = .int .i64 i ∧ Below wl.heap.size wl V ∧ V.ownsRow wl.heap.size 3 1 v0 i (vI ((c.es.map Ent.acc).take i))) (fun _ x30 _ => c.es.length - (intOf x30).toNat)
      case atStart => exact ⟨0, _, rfl, Nat.zero_le _, rfl, Below.refl _ _, World.ownsRow_nil _ _ _ _⟩
      case round =>
        obtain ⟨i, v0, hv, hi, rfl, hbl, ho0⟩ := hrel
        subst hv
        have HBQ := Lib.hid hbl
        have HO0 := Lib.hid ho0
        have HBW := Lib.hid ((HS9.out.kept HG.out.bel).kept hbl)
        have p10 := HBW.out.bx.cells.2.2.2.2.2.2.2.2.2.2
        clear hbl ho0
        by_cases hlt : i < c.es.length
        case pos =>
          have t5 : decide ((i : Int) < (c.es.length : Int)) = true := decide_eq_true (by omega)
          have t5n : decide (i < c.es.length) = true := decide_eq_true hlt
          have i1 : (i : Int) < (c.es.length : Int) := by omega
          obtain ⟨ob, oo, hea, f0, f1, f2, f3, f4⟩ := ent_at ((HC.out.kept HBW.out.bel).sl) i hlt
          rw [hea] at p10
          have HTK := Lib.hid (show (c.es.map Ent.acc).take (i + 1) = (c.es.map Ent.acc).take i ++ [c.es[i].acc] by rw [List.take_succ_eq_append_getElem (by rw [List.length_map]; exact hlt), List.getElem_map])
          generalize c.es[i].acc = ac at *
          have HLT := Lib.hid hlt
          have B1 := Lib.hid (show i + 1 ≤ maxLen by unfold maxLen; have := HLE.out; omega)
          have B2 := Lib.hid (show (i + 1) * 8 ≤ 140737488355328 by have := HLE.out; omega)
          have w2 : IntKind.i64.wrap ((i : Int) + 1) = ((i + 1 : Nat) : Int) := by rw [IntKind.wrap_i64]; have := HLE.out; omega
          clear hea hlt hi f1 f2 f3 f4
          go_wp2_with (at_builtin; refine wpList_append_sl rfl _ _ 24 rfl wl.heap.size 3 (.int .i64 0) 1 8 Try.underlying24 infoI rfl (by decide) v0 i (vI ((c.es.map Ent.acc).take i)) rfl (HO0.out.alloc _) (some ⟨wr.heap.size, 0, none⟩) 1 1 [.int .i64 ac] rfl (fun h => by cases h) rfl (sl_new _ _ _ _) (one_int _ _) B1.out B2.out ?n1 ?n2)
          case n1 => have := HBQ.out.size; simp only [World.size_alloc]; omega
          intro u0 wn hon hgn
          have hba := (Below.refl wr.heap.size wr).alloc (Nat.le_refl _) (.cells #[.int .i64 ac] 3)
          have HBN := Lib.hid (show Below wl.heap.size wl wn from (HBQ.out.trans (hba.mono HBQ.out.size)).grown hgn (HBQ.out.trans (hba.mono HBQ.out.size)).size (fun k hk => (HO0.out.lt k hk).1))
          have HON := Lib.hid (show wn.ownsRow wl.heap.size 3 1 u0 (i + 1) (vI ((c.es.map Ent.acc).take (i + 1))) from by rw [HTK.out, vI_append]; exact hon)
          clear hon hgn hba p10 f0
          go_wp2
          go_roundw
          case rel => exact ⟨i + 1, _, rfl, HLT.out, by go_num, HBN.out, HON.out⟩
          case measure => have := HLT.out; simp [intOf]; omega
        case neg =>
          obtain rfl : i = c.es.length := by omega
          have t5 : decide ((c.es.length : Int) < (c.es.length : Int)) = false := by simp
          have t5n : decide (c.es.length < c.es.length) = false := by simp
          have hG := HG.out.below HBQ.out
          have hbe := hG.bel
          have HBV := HBW
          have HPW := Lib.hid (owns_below (B := 0) HOW9.out hbe)
          have HPX := Lib.hid (owns_below (B := 0) HOX.out hbe)
          obtain ⟨at', ct, hvt, _, _, _⟩ := Go.K.owns_slice HO0.out
          subst hvt
          have HPT := Lib.hid (show wr.ownsRow wl.heap.size 3 1 (.slice at' c.es.length ct) c.es.length (vI (c.es.map Ent.acc)) from by
            have h := HO0.out
            rw [List.take_of_length_le (by rw [List.length_map]; exact Nat.le_refl _)] at h
            exact h)
          have HE1 := Lib.hid (Kp.newC hG.kp HN1c.out)
          have HE2 := Lib.hid (Kp.newC hG.kp HN2c.out)
          have HBXr := Lib.hid (show Box wr bx d1 from hG.kp _ _ _ (by decide) HBXc.out)
          have HBYr := Lib.hid (show Box wr by' d2 from hG.kp _ _ _ (by decide) HBY.out)
          have HZ := Lib.hid (show w1.heap.size ≤ w7.heap.size ∧ w7.heap.size ≤ w8.heap.size ∧ w8.heap.size ≤ w9.heap.size ∧ w9.heap.size ≤ wA.heap.size ∧ wA.heap.size ≤ w10.heap.size ∧ w10.heap.size ≤ w11.heap.size ∧ w9.heap.size ≤ wl.heap.size ∧ wl.heap.size ≤ wr.heap.size from ⟨HZW.out.1, HZW.out.2.1, HZW.out.2.2, HZAL.out, HW13.out.1, HW13.out.2.1, HG.out.ge, HBQ.out.size⟩)
          have HWLD := Lib.hid (show ∀ b, ownS (WL d1 d2 d1.es.length) b → wA.heap.size ≤ b from fun b hb => by
            rcases ownS_wl HLEN.out.1 hb with h | h
            · exact ((fam_wishes HE1.out HD1.out.2).lt h).1
            · have := ((fam_wishes HE2.out HD2.out.2).lt h).1; have := HZ.out; omega)
          have HWLL := Lib.hid (show ∀ b, ownS (WL d1 d2 d1.es.length) b → b < wl.heap.size from fun b hb => by
            rcases ownS_wl HLEN.out.1 hb with h | h
            · exact ((fam_wishes (Kp.newC HG.out.kp HN1c.out) HD1.out.2).lt h).2
            · exact ((fam_wishes (Kp.newC HG.out.kp HN2c.out) HD2.out.2).lt h).2)
          have HRL := Lib.hid (show (∀ b, (Value.slice d1.ea d1.es.length d1.ec).ownBlock = some b → b < wl.heap.size) ∧ (∀ b, (Value.slice d2.ea d2.es.length d2.ec).ownBlock = some b → b < wl.heap.size) from
            ⟨fun b h => ((Kp.newC HG.out.kp HN1c.out).row.lt b h).2, fun b h => ((Kp.newC HG.out.kp HN2c.out).row.lt b h).2⟩)
          have HFW := Lib.hid (show Fam w1.heap.size wr (LS ++ WL d1 d2 d1.es.length) from by
            refine fam_append (HFAM0.out.kept hbe) ?_ (fun b h1 h2 => ?_)
            · refine fam_wl HLEN.out.1 ((fam_wishes HE1.out HD1.out.2).base (by have := HZ.out; omega)) ((fam_wishes HE2.out HD2.out.2).base (by have := HZ.out; omega)) (fun b h1 h2 => ?_)
              have h3 := ((fam_wishes HE2.out HD2.out.2).lt h2).1
              obtain ⟨r, hr, e⟩ := h1
              obtain ⟨x, hx, rfl⟩ := List.mem_map.1 hr
              have := (HRD1.out.1 x hx b e).2
              have := HZ.out
              omega
            · have := (HLS7.out b h1).2
              have := HWLD.out b h2
              have := HZ.out
              omega)
          obtain ⟨av, cv, hvv, _, hsv, _⟩ := Go.K.owns_slice hG.own
          subst hvv
          have HOV := Lib.hid hG.own
          have HSV := Lib.hid hsv
          obtain ⟨LS2, hLS2⟩ : ∃ LS2, LS2 = LS ++ WL d1 d2 d1.es.length := ⟨_, rfl⟩
          obtain ⟨N2x, hN2⟩ : ∃ N2x, N2x = 12 + 2 * d1.es.length := ⟨_, rfl⟩
          have hl2 : LS2.length = N2x := by rw [hLS2, hN2, List.length_append, WL_len, ← HLL.out.1]
          rw [← hLS2] at HFW HSV HOV
          rw [← hN2] at HOV ⊢
          have HL2 := Lib.hid hl2
          have HNB := Lib.hid (show N2x ≤ 6000000 from by rw [hN2]; have h2 := HD13.out; omega)
          have HMX := Lib.hid (show ∀ r ∈ LS2, r.2.1 ≤ 17592186043904 from fun r hr => by
            rw [hLS2] at hr
            rcases List.mem_append.1 hr with hr | hr
            · exact HMX0.out r hr
            · have hp := wl_perm d1 d2 HLEN.out.1 d1.es.length (Nat.le_refl _)
              rw [List.take_of_length_le (by rw [List.length_map]; exact Nat.le_refl _), List.take_of_length_le (by rw [List.length_map]; have := HLEN.out.1; omega)] at hp
              rcases List.mem_append.1 (hp.mem_iff.2 hr) with h | h
              · obtain ⟨x, hx, rfl⟩ := List.mem_map.1 h; exact (HE1.out.ents x hx).mx
              · obtain ⟨x, hx, rfl⟩ := List.mem_map.1 h; exact (HE2.out.ents x hx).mx)
          -- of what changes
          obtain ⟨Z, hZ⟩ : ∃ Z : Nat → Prop, Z = fun x => ownS LS2 x ∨ ((Value.slice d1.ea d1.es.length d1.ec).ownBlock = some x ∨ (Value.slice d2.ea d2.es.length d2.ec).ownBlock = some x) := ⟨_, rfl⟩
          have HR1w := Lib.hid (show ∀ b, (Value.slice d2.ea d2.es.length d2.ec).ownBlock = some b → w11.heap.size ≤ b from fun b h => (HE2.out.row.lt b h).1)
          have HZ2 := Lib.hid (show ∀ b, Z b → w1.heap.size ≤ b ∧ (b < w7.heap.size ∨ wA.heap.size ≤ b) ∧ b < wl.heap.size from fun b hb => by
            rw [hZ] at hb
            have hz := HZ.out
            rcases hb with h | h | h
            · rw [hLS2] at h
              rcases ownS_append.1 h with h | h
              · have := HLS7.out b h; omega
              · have := HWLD.out b h; have := HWLL.out b h; omega
            · have := (HRD1.out.2 b h).1; have := HRL.out.1 b h; omega
            · have := HR1w.out b h; have := HRL.out.2 b h; omega)
          have HZB := Lib.hid (show ¬ Z bx ∧ ¬ Z by' from by
            have key : ∀ g d, Box wr g d → ¬ Z g := by
              intro g d hb hz
              rw [hZ] at hz
              rcases hz with ⟨r, hr, h⟩ | h | h
              · obtain ⟨j, hj, rfl⟩ := List.mem_iff_getElem.1 hr
                obtain ⟨xs, hx⟩ := HFW.out.own j hj
                exact own_ne_row hx hb (by decide) h
              · exact own_ne_row HE1.out.row hb (by decide) h
              · exact own_ne_row HE2.out.row hb (by decide) h
            exact ⟨key _ _ HBXr.out, key _ _ HBYr.out⟩)
          have HBS := Lib.hid (fun V (h : Only Z wr V) => (show Bs w c e V ∧ Box V bx d1 ∧ Box V by' d2 from
            ⟨HBV.out.only h (fun k hk => by have h1 := (HZ2.out k hk).1; have h2 := HGE1.out; omega), h.row HBXr.out HZB.out.1, h.row HBYr.out HZB.out.2⟩))
          have HK26 := Lib.hid (fun V (h : Below wr.heap.size wr V) => show Calls Try.prog 26 #[.slice av N2x cv] V fun e w' => e = .returned (.bool true) ∧ Only (ownS LS2) V w' from by
            have hx := apart_any w1.heap.size LS2 av cv V (by rw [HL2.out]; have := HNB.out; omega) (fun r hr => HMX.out r hr) (HSV.out.kept h) (HFW.out.kept h) (fun y hy hb => by
              obtain ⟨r, hr, e⟩ := hb
              obtain ⟨j, hj, rfl⟩ := List.mem_iff_getElem.1 hr
              obtain ⟨xs, hx⟩ := HFW.out.own j hj
              have h1 := owns_apart hx HOV.out (by decide)
              rcases h1 with h1 | h1
              · rw [h1] at e; cases e
              · exact h1 (e.trans (by rw [hy]; rfl))) (Nat.le_trans (by have := HZ.out; omega) h.size)
            rw [HL2.out] at hx
            exact hx)
          have HOFE := Lib.hid (show offB (.slice d1.ea d1.es.length d1.ec) (.slice d2.ea d2.es.length d2.ec) from fun b h1 h2 => by have := (HRD1.out.2 b h1).2; have := HR1w.out b h2; have := HZ.out; omega)
          have HK27 := Lib.hid (fun V (h : Only (ownS LS2) wr V) => show Calls Try.prog 27 #[.slice d1.ea d1.es.length d1.ec, .slice d2.ea d1.es.length d2.ec] V fun e w' => e = .returned (.bool true) ∧ Only (fun x => (Value.slice d1.ea d1.es.length d1.ec).ownBlock = some x ∨ (Value.slice d2.ea d2.es.length d2.ec).ownBlock = some x) V w' from by
            have off : ∀ {B n : Nat} {v : Value} {xs : List Value}, wr.ownsRow B 53 5 v n xs → V.ownsRow B 53 5 v n xs := fun ho => h.owns ho (fun k hk hs => by
              obtain ⟨r, hr, e⟩ := hs
              obtain ⟨j, hj, rfl⟩ := List.mem_iff_getElem.1 hr
              obtain ⟨xs, hx⟩ := HFW.out.own j hj
              rcases owns_apart hx ho (by decide) with h1 | h1
              · rw [h1] at e; cases e
              · exact h1 (e.trans hk.symm))
            have q2 := owns_base (off HE2.out.row) (show wA.heap.size ≤ w11.heap.size by have := HZ.out; omega)
            have hof := HOFE.out
            rw [← HLEN.out.1] at q2 hof ⊢
            exact entries_any wA.heap.size d1.es.length _ _ d1.ea d2.ea d1.ec d2.ec V (by have := HD13.out; omega) (off HE1.out.row) q2 hof (by have h1 := HZ.out; have h2 := h.size; have h3 := lt_row HBXr.out; have h4 := HBYX.out.2; omega))
          have HCEL := Lib.hid (fun V (h : Only Z wr V) => show V.cell? ⟨w.heap.size, 0, none⟩ = some (.int .i64 c.num) ∧ V.cell? ⟨w.heap.size, 1, none⟩ = some (.int .i64 c.kind) ∧ V.cell? ⟨w.heap.size, 2, none⟩ = some (.int .i64 c.by') ∧ V.cell? ⟨w.heap.size, 3, none⟩ = some (.int .i64 c.dl) ∧ V.cell? ⟨w.heap.size, 4, none⟩ = some (.int .i64 c.to') ∧ V.cell? ⟨w.heap.size, 5, none⟩ = some (.int .i64 c.want) ∧ V.cell? ⟨w.heap.size, 6, none⟩ = some (.int .u64 c.price) ∧ V.cell? ⟨w.heap.size, 7, none⟩ = some (.int .u64 c.reserve) ∧ V.cell? ⟨w.heap.size, 8, none⟩ = some (.int .u64 c.step) ∧ V.cell? ⟨w.heap.size, 9, none⟩ = some (.int .i64 c.of') ∧ V.cell? ⟨w.heap.size, 10, none⟩ = some (.slice c.ea c.es.length c.ec) ∧ V.cell? ⟨bx, 10, none⟩ = some (.slice d1.ea d1.es.length d1.ec) ∧ V.cell? ⟨by', 10, none⟩ = some (.slice d2.ea d1.es.length d2.ec) from by
            obtain ⟨hb, hx, hy⟩ := HBS.out V h
            obtain ⟨p0, p1, p2, p3, p4, p5, p6, p7, p8, p9, p10⟩ := hb.bx.cells
            have z1 := hx.cells.2.2.2.2.2.2.2.2.2.2
            have z3 := hy.cells.2.2.2.2.2.2.2.2.2.2
            rw [← HLEN.out.1] at z3
            exact ⟨p0, p1, p2, p3, p4, p5, p6, p7, p8, p9, p10, z1, z3⟩)
          have HZa := Lib.hid (show ∀ k, ownS LS2 k → Z k from fun k h => by rw [hZ]; exact .inl h)
          have HZc := Lib.hid (show ∀ k, ((Value.slice d1.ea d1.es.length d1.ec).ownBlock = some k ∨ (Value.slice d2.ea d2.es.length d2.ec).ownBlock = some k) → Z k from fun k h => by rw [hZ]; exact .inr h)
          have HNW := Lib.hid (show ∀ k, (Value.slice aw gn6 cw).ownBlock = some k → ¬ Z k from fun k hk hz => by
            have h1 := (HPW.out.lt k hk).1
            have h2 := (HOW.out.lt k hk).2
            have hh := HZ.out
            have := HZ2.out k hz
            omega)
          have HNX := Lib.hid (show ∀ k, (Value.slice ax hn6 cx).ownBlock = some k → ¬ Z k from fun k hk hz => by
            have h1 := (HPX.out.lt k hk).1
            have h2 := (HOX.out.lt k hk).2
            have hh := HZ.out
            have := HZ2.out k hz
            omega)
          have HNT := Lib.hid (show ∀ k, (Value.slice at' c.es.length ct).ownBlock = some k → ¬ Z k from fun k hk hz => by
            have h1 := (HPT.out.lt k hk).1
            have := HZ2.out k hz
            omega)
          have HD0 := Lib.hid (show Only Z wr wr.drew from Only.of_below (below_drawn (Below.refl wr.heap.size wr) _))
          have HBD := Lib.hid (show Below wr.heap.size wr wr.drew from below_drawn (Below.refl wr.heap.size wr) _)
          have HI6 := Lib.hid (fun V (h : Only Z wr V) => (HBS.out V h).1.bel)
          have HWN := Lib.hid (fun V (h : Only Z wr V) => h.owns HPW.out HNW.out)
          have HXN := Lib.hid (fun V (h : Only Z wr V) => h.owns HPX.out HNX.out)
          have HTN := Lib.hid (fun V (h : Only Z wr V) => h.owns HPT.out HNT.out)
          have HLE5 := Lib.hid (show c.es.length ≤ 5000 by have := HLE.out; omega)
          obtain ⟨p0, p1, p2, p3, p4, p5, p6, p7, p8, p9, p10, z1, z3⟩ := HCEL.out wr (Only.refl _ _)
          have q0 : ((d1.es.length : Int) != (d1.es.length : Int)) = false := by simp
          have hcase : ((joinV c e == 0) = true ∧ ((d1.es.length : Int) != (c.es.length : Int) + 1) = false) ∨ (joinV c e == 0) = false := by
            by_cases hj : joinV c e = 0
            · refine .inl ⟨by rw [beq_iff_eq]; exact hj, ?_⟩
              have := HLEN.out.2.1.1 hj
              rw [bne_eq_false_iff_eq]
              omega
            · exact .inr (by rw [beq_eq_false_iff_ne]; exact hj)
          have w1' : IntKind.i64.wrap ((c.es.length : Int) + 1) = (c.es.length : Int) + 1 := by rw [IntKind.wrap_i64]; have := HLE.out; omega
          obtain ⟨jv, hjv⟩ : ∃ jv, jv = joinV c e := ⟨_, rfl⟩
          rw [← hjv] at hcase ⊢
          clear hjv hl2 hN2 hLS2 hZ hsv hG hbe hi hlt
          have HCA := Lib.hid hcase
          clear hcase HLEN HG HFW HMX HSV HOV HE1 HE2 HBXr HBYr HOFE
          rcases HCA.out with ⟨j0, l0⟩ | j0
          all_goals
            clear HCA
            go_upto_region 26 with fail
            go_region_held3 (fun V => V.cell? ⟨w.heap.size, 0, none⟩ = some (.int .i64 c.num) ∧ V.cell? ⟨w.heap.size, 1, none⟩ = some (.int .i64 c.kind) ∧ V.cell? ⟨w.heap.size, 2, none⟩ = some (.int .i64 c.by') ∧ V.cell? ⟨w.heap.size, 3, none⟩ = some (.int .i64 c.dl) ∧ V.cell? ⟨w.heap.size, 4, none⟩ = some (.int .i64 c.to') ∧ V.cell? ⟨w.heap.size, 5, none⟩ = some (.int .i64 c.want) ∧ V.cell? ⟨w.heap.size, 6, none⟩ = some (.int .u64 c.price) ∧ V.cell? ⟨w.heap.size, 7, none⟩ = some (.int .u64 c.reserve) ∧ V.cell? ⟨w.heap.size, 8, none⟩ = some (.int .u64 c.step) ∧ V.cell? ⟨w.heap.size, 9, none⟩ = some (.int .i64 c.of') ∧ V.cell? ⟨w.heap.size, 10, none⟩ = some (.slice c.ea c.es.length c.ec) ∧ V.cell? ⟨bx, 10, none⟩ = some (.slice d1.ea d1.es.length d1.ec) ∧ V.cell? ⟨by', 10, none⟩ = some (.slice d2.ea d1.es.length d2.ec)) (first | assumption | exact HCEL.out _ HD0.out)
              ((first
                | (go_at_call 26
                   (with_reducible refine (HK26.out _ HBD.out).mono ?_)
                   rintro e31 v1 ⟨rfl, ho1⟩
                   have hP1 : Only (ownS LS2) wr v1 := (Only.of_below (S := ownS LS2) HBD.out).trans ho1 (fun b hb => .inl hb)
                   have hC1 := HCEL.out v1 (hP1.mono HZa.out))
                | (go_at_call 27
                   (with_reducible refine (HK27.out _ hP1).mono ?_)
                   rintro e33 v3 ⟨rfl, ho3⟩
                   have hP3 : Only Z wr v3 := (hP1.mono HZa.out).trans ho3 (fun b hb => .inl (HZc.out b hb))
                   have hC3 := HCEL.out v3 hP3)
                | (go_at_call 29
                   (with_reducible refine (HK29.out _ (HI6.out _ hP3) HLE5.out).mono ?_)
                   rintro e28 v4 ⟨vg1, da1, db1, dk1, rfl, r1a, r1b, r1c, hrow1, hb4⟩
                   have hP4 : Only Z wr v4 := hP3.trans (Only.of_below (S := fun _ => False) hb4) (fun b hb => absurd hb id)
                   have hC4 := HCEL.out v4 hP4
                   obtain ⟨ag1, kg1, hvg1, _, _, _⟩ := Go.K.owns_slice hrow1
                   subst hvg1)
                | (go_at_call 29
                   (with_reducible refine (HK29.out _ (HI6.out _ hP4) HLE5.out).mono ?_)
                   rintro e28 v5 ⟨vg2, da2, db2, dk2, rfl, r2a, r2b, r2c, hrow2, hb5⟩
                   have hP5 : Only Z wr v5 := hP4.trans (Only.of_below (S := fun _ => False) hb5) (fun b hb => absurd hb id)
                   have hC5 := HCEL.out v5 hP5
                   rw [← endG_same r1a r1b r1c r2a r2b r2c] at hrow2
                   obtain ⟨ag2, kg2, hvg2, _, _, _⟩ := Go.K.owns_slice hrow2
                   subst hvg2)
                | (go_at_call 28
                   have K34 := gifts_any v3.heap.size (endG c.es da1 db1 dk1).length _ _ ag1 ag2 kg1 kg2 v5 (by have h1 := endG_len r1c; have h2 := HLE.out; omega) (owns_below (B := 0) hrow1 hb5) (owns_base hrow2 hb4.size) (show offB _ _ from fun b h1 h2 => by have h3 := (hrow1.lt b h1).2; have h4 := (hrow2.lt b h2).1; omega) (Nat.le_trans hb4.size hb5.size)
                   (with_reducible refine K34.mono ?_)
                   rintro e34 v6 ⟨rfl, ho6⟩
                   have hP6 : Only Z wr v6 := hP5.trans ho6 (fun b hb => by
                     refine .inr ?_
                     have h0 := hP3.size
                     rcases hb with h | h
                     · have := (hrow1.lt b h).1; omega
                     · have := (hrow2.lt b h).1; have := hb4.size; omega)
                   have hC6 := HCEL.out v6 hP6)))
            all_goals
              have HP6 := Lib.hid hP6
              clear hP1 hP3 hP4 hP5 hP6 hC1 hC3 hC4 hC5 hrow1 hrow2 hb4 hb5 ho1 ho3 ho6 r1a r1b r1c r2a r2b r2c
              try clear K34
              clear p0 p1 p2 p3 p4 p5 p6 p7 p8 p9 p10 z1 z3
              go_wp2
              clear hC6
              go_loopw [32] (fun x32 V => ∃ i : Nat, i ≤ c.es.length ∧ x32 = .int .i64 i ∧ Qt v6 V) (fun x32 _ => c.es.length - (intOf x32).toNat)
              case atStart => exact ⟨0, Nat.zero_le _, rfl, Qt.refl _⟩
              case round =>
                obtain ⟨i, hi, rfl, hq⟩ := hrel
                have HQ := Lib.hid hq
                have HBI := Lib.hid ((HI6.out v6 HP6.out).trans (HQ.out.below w.heap.size))
                have p10 := ((HBS.out v6 HP6.out).1.kept (HQ.out.below _)).bx.cells.2.2.2.2.2.2.2.2.2.2
                clear hq
                by_cases hlt : i < c.es.length
                case pos =>
                  have t5 : decide ((i : Int) < (c.es.length : Int)) = true := decide_eq_true (by omega)
                  have t5n : decide (i < c.es.length) = true := decide_eq_true hlt
                  have i1 : (i : Int) < (c.es.length : Int) := by omega
                  obtain ⟨ob, oo, hea, f0, f1, f2, f3, f4⟩ := ent_at ((HC.out.kept HBI.out).sl) i hlt
                  rw [hea] at p10
                  have hlt' : i < (c.es.map Ent.acc).length := by rw [List.length_map]; exact hlt
                  obtain ⟨b2, o2, rfl, hc2⟩ := ((sl3 (HTN.out v6 HP6.out)).1.kept (HQ.out.below _)) (vI_ne hlt')
                  have h2 := hc2 i (by rw [vI_length]; exact hlt')
                  rw [vI_get _ i hlt', List.getElem_map] at h2
                  have w2 : IntKind.i64.wrap ((i : Int) + 1) = ((i + 1 : Nat) : Int) := by rw [IntKind.wrap_i64]; have := HLE.out; omega
                  generalize c.es[i].acc = ac at *
                  have hne : (ac != ac) = false := by simp
                  have HLT := Lib.hid hlt
                  clear hc2 hea hlt hlt' hi f1 f2 f3 f4
                  go_wp2
                  go_quiet (fail)
                  go_wp2
                  go_roundw
                  case rel => exact ⟨i + 1, HLT.out, by go_num, HQ.out.trans ⟨_, rfl⟩⟩
                  case measure => have := HLT.out; simp [intOf]; omega
                case neg =>
                  obtain rfl : i = c.es.length := by omega
                  have t5 : decide ((c.es.length : Int) < (c.es.length : Int)) = false := by simp
                  have t5n : decide (c.es.length < c.es.length) = false := by simp
                  have K8 := Lib.hid (HK8.out wr HBI.out)
                  go_wp2_with fail
                  refine K8.out.mono ?_
                  rintro r0 u7 ⟨⟨a7, n7, k7⟩, ⟨b7, m7, j7⟩, L7, M7, p7, q7, rfl, hb7, hv7, ho7⟩
                  obtain ⟨e1, e2⟩ := clv_unique hv7 HV6.out
                  rw [e1, e2] at ho7
                  have HO7 := Lib.hid ho7
                  have HB7 := Lib.hid hb7
                  clear hb7 hv7 ho7 e1 e2 p10 t5 t5n
                  unfold r3
                  go_wp2_with ((with_reducible refine at_store_op ?_); refine wpList_store_lit 27 u7.heap.size 0 #[.slice a7 n7 k7, .slice b7 m7 j7, .int .u64 p7, .int .u64 q7] (.agg #[.slice a7 n7 k7, .slice b7 m7 j7, .int .u64 p7, .int .u64 q7]) (alloc_at rfl) sz27 (Nat.le_of_ble_eq_true rfl) rfl rfl ?_ ?_ ?_; exact rfl; exact rfl; intro w14 hp14; have z0 : w14.cell? ⟨u7.heap.size, 0, none⟩ = some (.slice a7 n7 k7) := (by rw [cell_of_row _ _ _ _ _ _ hp14.at']; rfl); have z1 : w14.cell? ⟨u7.heap.size, 1, none⟩ = some (.slice b7 m7 j7) := (by rw [cell_of_row _ _ _ _ _ _ hp14.at']; rfl))
                  have HX7 := Lib.hid (show Below u7.heap.size u7 w14 from hp14.below ((Below.refl u7.heap.size u7).alloc (Nat.le_refl _) _) ((Below.refl u7.heap.size u7).alloc (Nat.le_refl _) _).size (Nat.le_refl _))
                  clear hp14
                  have HB14 := Lib.hid ((HBI.out.trans (HB7.out.mono HBI.out.size)).trans (HX7.out.mono (HBI.out.trans (HB7.out.mono HBI.out.size)).size))
                  have HO14 := Lib.hid (HO7.out.kept HX7.out)
                  have sW := (((sl3 (HWN.out v6 HP6.out)).1.kept (HQ.out.below _)).kept HB7.out).kept HX7.out
                  have sX := (((sl3 (HXN.out v6 HP6.out)).1.kept (HQ.out.below _)).kept HB7.out).kept HX7.out
                  have HSW := Lib.hid sW
                  have HSX := Lib.hid sX
                  have KA := Lib.hid (show Calls Try.prog 24 #[.slice a7 n7 k7, .slice aw gn6 cw] w14 fun e w' => e = .returned (.bool true) ∧ Qt w14 w' from by
                    have h := same_true a7 aw k7 cw L6 w14 (by have := HN6.out; unfold maxLen; omega) (sl3 HO14.out.o1).1 HSW.out
                    have e1 : n7 = L6.length := HO14.out.l1
                    rw [e1, HN6.out.1]; exact h)
                  have KB := Lib.hid (fun V (hq : Qt w14 V) => show Calls Try.prog 24 #[.slice b7 m7 j7, .slice ax hn6 cx] V fun e w' => e = .returned (.bool true) ∧ Qt V w' from by
                    have h := same_true b7 ax j7 cx M6 V (by have := HN6.out; unfold maxLen; omega) ((sl3 HO14.out.o2).1.kept (hq.below _)) (HSX.out.kept (hq.below _))
                    have e1 : m7 = M6.length := HO14.out.l2
                    rw [e1, HN6.out.2.1]; exact h)
                  clear sW sX z0
                  refine KA.out.mono ?_
                  rintro r0 w15 ⟨rfl, hq15⟩
                  have z1 := below_cell (hq15.below _) z1
                  have HQ15 := Lib.hid hq15
                  clear hq15
                  go_wp2_with fail
                  refine (KB.out w15 HQ15.out).mono ?_
                  rintro r0 w16 ⟨rfl, hq16⟩
                  have HQ16 := Lib.hid hq16
                  clear hq16
                  go_wp2
                  go_ret
                  exact ⟨rfl, (HB14.out.trans (HQ15.out.below _)).trans (HQ16.out.below _)⟩
theorem own : ownKnob Try.prog.godebug = none := by kernel_rfl
theorem laidOut : laidOutB Try.prog = true := by kernel_rfl
set_option maxRecDepth 100000 in
theorem lifted (os : Os) (started : os.Started) (H : Type) (enc : TypeId × Value → H) :
    ReturnsInHanded {} Try.checked os 6 .any (Rows.callOwnSpec.pre6 enc Try.prog Try.f6 Rows.callOwnRow.domain false) (Rows.callOwnSpec.post enc Try.prog Try.f6 false true false false) := by
  refine returnsInHanded_of_change_sized (C := Try.checked) own started (by kernel_rfl) Try.func6
    (ChangeSpec.witness6 (enc := enc) (C := Try.checked) false ⟨#[], #[.slice none 0 0, .slice none 0 0, .slice none 0 0, .agg #[.int .i64 0, .int .i64 0, .int .i64 0, .int .i64 0, .int .i64 0, .int .i64 0, .int .u64 0, .int .u64 0, .int .u64 0, .int .i64 0, .slice none 0 0], .agg #[.int .i64 0, .int .i64 0, .int .u64 0, .int .u64 0, .slice none 0 0]], []⟩ 8 (by kernel_rfl) (by kernel_rfl) (by kernel_rfl) (by kernel_rfl)) ?_
  intro W base args ds gs before hval0 hW hcnd hsz0 _
  have hsz : (DataW.weightsEach Try.prog (Try.f6.params.toList ++ Rows.callOwnSpec.plain.varTypes Try.prog) (ds ++ gs)).all (· ≤ reachBytes) = true := hsz0
  clear hsz0
  have hval : ∀ (j : Nat) t v, Try.f6.params[j]? = some t → args[j]? = some v → Value.okWide Try.prog W .any base t v := hval0
  have hW' := hW
  obtain ⟨p, q, hA0, hV, rfl, hfz, hnd⟩ := hW
  have hA : DataW.TrodAll enc Try.prog W 0 (fun _ => true) true Try.f6.params.toList args.toList ds p := hA0
  rw [Try.params6] at hA hval hsz
  obtain ⟨v0, vs0, d0, ds0, p0, q0, hargs, rfl, rfl, h0, r0⟩ := trodAll_cons hA
  obtain ⟨v1, vs1, d1, ds1, p1, q1, rfl, rfl, rfl, h1, r1⟩ := trodAll_cons r0
  obtain ⟨v2, vs2, d2, ds2, p2, q2, rfl, rfl, rfl, h2, r2⟩ := trodAll_cons r1
  obtain ⟨v3, vs3, d3, ds3, p3, q3, rfl, rfl, rfl, h3, r3⟩ := trodAll_cons r2
  obtain ⟨v4, vs4, d4, ds4, p4, q4, rfl, rfl, rfl, h4, r4⟩ := trodAll_cons r3
  obtain ⟨rfl, rfl, rfl⟩ := trodAll_nil r4
  obtain rfl : args = #[v0, v1, v2, v3, v4] := by cases args; simp_all
  obtain ⟨rfl, rfl⟩ := trodVars_none hV
  obtain ⟨a0, len0, cap0, rfl⟩ := okWide_slice Try.underlying22 (hval 0 22 v0 rfl rfl)
  have k0 := h0
  have lt0 : ∀ x ∈ p0, x.block < W.heap.size := by obtain ⟨m, hm⟩ := k0; exact DataW.trod_lt m _ _ _ hm
  obtain ⟨l0, rfl, s0, n0, m0, z0⟩ := open_u64s h0 hsz (j := 0) rfl rfl
  obtain ⟨a1, len1, cap1, rfl⟩ := okWide_slice Try.underlying22 (hval 1 22 v1 rfl rfl)
  have k1 := h1
  have lt1 : ∀ x ∈ p1, x.block < W.heap.size := by obtain ⟨m, hm⟩ := k1; exact DataW.trod_lt m _ _ _ hm
  obtain ⟨l1, rfl, s1, n1, m1, z1⟩ := open_u64s h1 hsz (j := 1) rfl rfl
  obtain ⟨a2, len2, cap2, rfl⟩ := okWide_slice Try.underlying22 (hval 2 22 v2 rfl rfl)
  have k2 := h2
  have lt2 : ∀ x ∈ p2, x.block < W.heap.size := by obtain ⟨m, hm⟩ := k2; exact DataW.trod_lt m _ _ _ hm
  obtain ⟨l2, rfl, s2, n2, m2, z2⟩ := open_u64s h2 hsz (j := 2) rfl rfl
  have k3 := h3
  have lt3 : ∀ x ∈ p3, x.block < W.heap.size := by obtain ⟨m, hm⟩ := k3; exact DataW.trod_lt m _ _ _ hm
  obtain ⟨c3, rfl, n3⟩ := open_con (hval 3 51 v3 rfl rfl) h3 hsz (j := 3) rfl rfl
  have k4 := h4
  have lt4 : ∀ x ∈ p4, x.block < W.heap.size := by obtain ⟨m, hm⟩ := k4; exact DataW.trod_lt m _ _ _ hm
  obtain ⟨c4, rfl, n4⟩ := open_ent (hval 4 53 v4 rfl rfl) h4 hsz (j := 4) rfl rfl
  clear hA0 hval0
  refine (walk a0 cap0 l0 a1 cap1 l1 a2 cap2 l2 c3 c4 W s0 n0 m0 z0 s1 n1 m1 z1 s2 n2 m2 z2 n3 n4).mono fun e W' ⟨he, bel⟩ => ?_
  subst he
  exact ⟨_, rfl, _, _, _, [], _, [], hW', trodAll_mk1 (shut_bool Try.underlying4 _), (trodAll_cons_mk (Below.trod laidOut (by kernel_rfl) (of_decide_eq_true (by kernel_rfl)) k0 bel lt0) (trodAll_cons_mk (Below.trod laidOut (by kernel_rfl) (of_decide_eq_true (by kernel_rfl)) k1 bel lt1) (trodAll_cons_mk (Below.trod laidOut (by kernel_rfl) (of_decide_eq_true (by kernel_rfl)) k2 bel lt2) (trodAll_cons_mk (Below.trod laidOut (by kernel_rfl) (of_decide_eq_true (by kernel_rfl)) k3 bel lt3) (trodAll_cons_mk (Below.trod laidOut (by kernel_rfl) (of_decide_eq_true (by kernel_rfl)) k4 bel lt4) trodAll_mk0))))), rfl, bel.frame _, fun h => by cases h⟩
theorem over : Rows.callOwnRow.holds Try.pinned (OpenSpec.ofChange Rows.callOwnSpec) :=
  OpenClaim.holds_of_wide 6 Try.f6 rfl rfl rfl rfl rfl rfl rfl ⟨rfl, rfl, rfl, rfl, rfl⟩ rfl rfl rfl rfl rfl (by kernel_rfl) Try.func6 (by kernel_rfl)
    (of_decide_eq_true (by kernel_rfl)) (by unfold Func.isWrapper; first | (rw [if_pos (by decide +kernel)]; kernel_rfl) | (rw [if_neg (by decide +kernel)]; exact ⟨rfl, rfl⟩))
    (fun os started H enc _ => lifted os started H enc)
theorem proved : Rows.CallOwnSaid := over
#print axioms proved
end Go.Proofs.Ytbggibdldadpiaa.lawCallOwn
