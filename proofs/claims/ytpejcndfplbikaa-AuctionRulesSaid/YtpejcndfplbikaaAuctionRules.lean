/-
  Of whatever contract and entry: the terms, the end, what goes back and what a join answers are the document's; what is handed in stays, and is not kept.
  No condition beyond the statement's own.
-/
import Derived.Test.YtpejcndfplbikaaMb
import Derived.Deep.RegionHeld3
namespace Go.Proofs.Ytpejcndfplbikaa.lawAuctionRules
open Go.RowKit Go.K Go.Maps Go.ChangeShapes Go.WideShapes Go.ChangeAt
set_option linter.unusedVariables false
set_option linter.unusedSimpArgs false
theorem F3_call {c : Con} {j : Nat} {v : Value} {r : Nat × Nat} {W : World} (h : F3 c j v r W) (hj : j = 1 ∨ j = 3 ∨ j = 5) : ∃ l, v = Con.agg l ∧ LentC r c W l := by
  unfold F3 at h; rw [if_neg (by omega), if_pos hj] at h; exact h
theorem F3_alloc {c : Con} {j : Nat} {v : Value} {r : Nat × Nat} {W : World} (h : F3 c j v r W) (hj : 6 ≤ j) : v = .pointer (some ⟨r.1, 0, none⟩) ∧ ZB W r.1 ∧ r.1 < r.2 := by
  unfold F3 at h; rw [if_neg (by omega), if_neg (by omega)] at h; exact h
set_option maxRecDepth 100000 in
set_option maxHeartbeats 8000000 in
theorem walk (c : Con) (e : Ent) (w : World) (hc : ConOk w c) (he : EntOk w e) : Calls Try.prog 4 #[c.agg, e.agg] w fun r w' => r = .returned (.bool true) ∧ Below w.heap.size w w' := by
  have HC := Lib.hid hc
  have HE := Lib.hid he
  clear hc he
  unfold Con.agg Ent.agg
  go_enter Try.func4, Try.ntmps4
  go_wp2
  obtain ⟨w0, hw0⟩ : ∃ W, W = (w.alloc (.cells #[.int .i64 c.num, .int .i64 c.kind, .int .i64 c.by', .int .i64 c.dl, .int .i64 c.to', .int .i64 c.want, .int .u64 c.price, .int .u64 c.reserve, .int .u64 c.step, .int .i64 c.of', .slice c.ea c.es.length c.ec] 25)).alloc (.cells #[.int .i64 e.acc, .int .i64 e.item, .int .u64 e.coins, .int .u64 e.price, .slice e.wa e.ws.length e.wc] 33) := ⟨_, rfl⟩
  have HB0 := Lib.hid (show Below w.heap.size w w0 by rw [hw0]; exact ((Below.refl _ _).alloc (Nat.le_refl _) _).alloc (by simp) _)
  have BC := Lib.hid (show Box w0 w.heap.size c by rw [hw0]; exact alloc_old (alloc_at rfl))
  have BE := Lib.hid (show BoxE w0 (w.heap.size + 1) e by rw [hw0]; exact alloc_at (by simp))
  rw [← hw0]
  clear hw0
  refine lend3 rfl (by kernel_rfl) ⟨{ on := 0, ground := .data }, by simp, rfl, rfl⟩ ⟨{ on := 2, ground := .data }, by simp, rfl, rfl⟩ ⟨{ on := 4, ground := .data }, by simp, rfl, rfl⟩ (by simp) w.heap.size rfl c BC.out (HC.out.kept HB0.out) ?_ (fun _ => undef) rfl
  intro x RR w1 hP h19 q1 h21 q3 h23 q5 q6 q7 q8
  obtain ⟨l1, hx20, hL1⟩ := F3_call q1 (by decide)
  obtain ⟨l2, hx22, hL2⟩ := F3_call q3 (by decide)
  obtain ⟨l3, hx24, hL3⟩ := F3_call q5 (by decide)
  obtain ⟨hx5, hz1, hr1⟩ := F3_alloc q6 (by decide)
  obtain ⟨hx6, hz2, hr2⟩ := F3_alloc q7 (by decide)
  obtain ⟨hx7, hz3, hr3⟩ := F3_alloc q8 (by decide)
  simp only [putsF, List.foldl_cons, List.foldl_nil, Act.put, List.setIfInBounds_toArray, List.set_cons_zero, List.set_cons_succ, h19, h21, h23, hx20, hx22, hx24, hx5, hx6, hx7]
  have HP := Lib.hid hP
  have HL1 := Lib.hid hL1
  have HL2 := Lib.hid hL2
  have HL3 := Lib.hid hL3
  have HZ1 := Lib.hid hz1
  have HZ2 := Lib.hid hz2
  have HZ3 := Lib.hid hz3
  have HR := Lib.hid (And.intro hr1 (And.intro hr2 hr3))
  clear q1 q3 q5 q6 q7 q8 h19 h21 h23 hx20 hx22 hx24 hx5 hx6 hx7 hP hL1 hL2 hL3 hz1 hz2 hz3 hr1 hr2 hr3
  unfold Con.agg
  have D := Lib.hid (fun i j (h : i ≠ j) (hi : i < 9) (hj : j < 9) => HP.out.off i j h (decide_eq_true hi) (decide_eq_true hj))
  have I := Lib.hid (fun i (hi : i < 9) => HP.out.in' i (decide_eq_true hi))
  have HBW := Lib.hid HP.out.bel
  have hws : w.heap.size + 1 < w0.heap.size := lt_row BE.out
  obtain ⟨ra, hra⟩ : ∃ r, r = RR 1 := ⟨_, rfl⟩
  obtain ⟨rb, hrb⟩ : ∃ r, r = RR 3 := ⟨_, rfl⟩
  obtain ⟨rc, hrc⟩ : ∃ r, r = RR 5 := ⟨_, rfl⟩
  obtain ⟨ga, hga⟩ : ∃ r, r = (RR 6).1 := ⟨_, rfl⟩
  obtain ⟨gb, hgb⟩ : ∃ r, r = (RR 7).1 := ⟨_, rfl⟩
  obtain ⟨gc, hgc⟩ : ∃ r, r = (RR 8).1 := ⟨_, rfl⟩
  have N := Lib.hid (show (ga ≠ gb ∧ ga ≠ gc ∧ gb ≠ gc ∧ w.heap.size + 1 < ga ∧ w.heap.size + 1 < gb ∧ w.heap.size + 1 < gc) ∧ ((ga < ra.1 ∨ ra.2 ≤ ga) ∧ (gb < ra.1 ∨ ra.2 ≤ gb) ∧ (gc < ra.1 ∨ ra.2 ≤ gc)) ∧ ((ga < rb.1 ∨ rb.2 ≤ ga) ∧ (gb < rb.1 ∨ rb.2 ≤ gb) ∧ (gc < rb.1 ∨ rb.2 ≤ gc)) ∧ ((ga < rc.1 ∨ rc.2 ≤ ga) ∧ (gb < rc.1 ∨ rc.2 ≤ gb) ∧ (gc < rc.1 ∨ rc.2 ≤ gc)) ∧ ((ra.2 ≤ rb.1 ∨ rb.2 ≤ ra.1) ∧ (ra.2 ≤ rc.1 ∨ rc.2 ≤ ra.1) ∧ (rb.2 ≤ rc.1 ∨ rc.2 ≤ rb.1)) ∧ w.heap.size + 1 < ra.1 ∧ w.heap.size + 1 < rb.1 ∧ w.heap.size + 1 < rc.1 by
    have hR := HR.out
    have d67 := D.out 6 7 (by decide) (by decide) (by decide)
    have d68 := D.out 6 8 (by decide) (by decide) (by decide)
    have d78 := D.out 7 8 (by decide) (by decide) (by decide)
    have d16 := D.out 1 6 (by decide) (by decide) (by decide)
    have d17 := D.out 1 7 (by decide) (by decide) (by decide)
    have d18 := D.out 1 8 (by decide) (by decide) (by decide)
    have d36 := D.out 3 6 (by decide) (by decide) (by decide)
    have d37 := D.out 3 7 (by decide) (by decide) (by decide)
    have d38 := D.out 3 8 (by decide) (by decide) (by decide)
    have d56 := D.out 5 6 (by decide) (by decide) (by decide)
    have d57 := D.out 5 7 (by decide) (by decide) (by decide)
    have d58 := D.out 5 8 (by decide) (by decide) (by decide)
    have d13 := D.out 1 3 (by decide) (by decide) (by decide)
    have d15 := D.out 1 5 (by decide) (by decide) (by decide)
    have d35 := D.out 3 5 (by decide) (by decide) (by decide)
    have i1 := I.out 1 (by decide)
    have i3 := I.out 3 (by decide)
    have i5 := I.out 5 (by decide)
    have i6 := I.out 6 (by decide)
    have i7 := I.out 7 (by decide)
    have i8 := I.out 8 (by decide)
    rw [hra, hrb, hrc, hga, hgb, hgc]
    refine ⟨⟨?_, ?_, ?_, ?_, ?_, ?_⟩, ⟨?_, ?_, ?_⟩, ⟨?_, ?_, ?_⟩, ⟨?_, ?_, ?_⟩, ⟨?_, ?_, ?_⟩, ?_, ?_, ?_⟩ <;> omega)
  rw [← hra] at HL1
  rw [← hrb] at HL2
  rw [← hrc] at HL3
  rw [← hga] at HZ1 ⊢
  rw [← hgb] at HZ2 ⊢
  rw [← hgc] at HZ3 ⊢
  clear hra hrb hrc hga hgb hgc D I HP HR hws
  refine wpList_store_lit 25 ga 0 #[.int .i64 l1.num, .int .i64 l1.kind, .int .i64 l1.by', .int .i64 l1.dl, .int .i64 l1.to', .int .i64 l1.want, .int .u64 l1.price, .int .u64 l1.reserve, .int .u64 l1.step, .int .i64 l1.of', .slice l1.ea l1.es.length l1.ec] (.agg #[.int .i64 l1.num, .int .i64 l1.kind, .int .i64 l1.by', .int .i64 l1.dl, .int .i64 l1.to', .int .i64 l1.want, .int .u64 l1.price, .int .u64 l1.reserve, .int .u64 l1.step, .int .i64 l1.of', .slice l1.ea l1.es.length l1.ec]) HZ1.out szC (Nat.le_of_ble_eq_true rfl) rfl rfl (by rfl) (by rfl) ?_
  intro w2 hp1
  refine wpList_store_lit 25 gb 0 #[.int .i64 l2.num, .int .i64 l2.kind, .int .i64 l2.by', .int .i64 l2.dl, .int .i64 l2.to', .int .i64 l2.want, .int .u64 l2.price, .int .u64 l2.reserve, .int .u64 l2.step, .int .i64 l2.of', .slice l2.ea l2.es.length l2.ec] (.agg #[.int .i64 l2.num, .int .i64 l2.kind, .int .i64 l2.by', .int .i64 l2.dl, .int .i64 l2.to', .int .i64 l2.want, .int .u64 l2.price, .int .u64 l2.reserve, .int .u64 l2.step, .int .i64 l2.of', .slice l2.ea l2.es.length l2.ec]) (hp1.row HZ2.out (fun h => N.out.1.1 h.symm)) szC (Nat.le_of_ble_eq_true rfl) rfl rfl (by rfl) (by rfl) ?_
  intro w3 hp2
  refine wpList_store_lit 25 gc 0 #[.int .i64 l3.num, .int .i64 l3.kind, .int .i64 l3.by', .int .i64 l3.dl, .int .i64 l3.to', .int .i64 l3.want, .int .u64 l3.price, .int .u64 l3.reserve, .int .u64 l3.step, .int .i64 l3.of', .slice l3.ea l3.es.length l3.ec] (.agg #[.int .i64 l3.num, .int .i64 l3.kind, .int .i64 l3.by', .int .i64 l3.dl, .int .i64 l3.to', .int .i64 l3.want, .int .u64 l3.price, .int .u64 l3.reserve, .int .u64 l3.step, .int .i64 l3.of', .slice l3.ea l3.es.length l3.ec]) (hp2.row (hp1.row HZ3.out (fun h => N.out.1.2.1 h.symm)) (fun h => N.out.1.2.2.1 h.symm)) szC (Nat.le_of_ble_eq_true rfl) rfl rfl (by rfl) (by rfl) ?_
  intro w4 hp3
  have HA := Lib.hid (show Abd w c e l1 l2 l3 ra rb rc ga gb gc w4 by
    obtain ⟨⟨n1, n2, n3, n4, n5, n6⟩, ⟨a1, a2, a3⟩, ⟨b1, b2, b3⟩, ⟨c1, c2, c3⟩, _⟩ := N.out
    have hb1 := HB0.out.trans (HBW.out.mono HB0.out.size)
    have hb2 := hp1.below hb1 hb1.size (by omega)
    have hb3 := hp2.below hb2 hb2.size (by omega)
    exact ⟨hp3.below hb3 hb3.size (by omega), hp3.row (hp2.row (hp1.row (BC.out.kept HBW.out) (by omega)) (by omega)) (by omega), hp3.row (hp2.row (hp1.row (BE.out.kept HBW.out) (by omega)) (by omega)) (by omega),
      hp3.row (hp2.row hp1.at' n1) n2, hp3.row hp2.at' n3, hp3.at', ((HL1.out.put hp1 a1).put hp2 a2).put hp3 a3, ((HL2.out.put hp1 b1).put hp2 b2).put hp3 b3, ((HL3.out.put hp1 c1).put hp2 c2).put hp3 c3⟩)
  clear hp1 hp2 hp3 HZ1 HZ2 HZ3 HL1 HL2 HL3 HBW BC BE HB0
  have HK21 := Lib.hid (fun V (h : Abd w c e l1 l2 l3 ra rb rc ga gb gc V) => terms_piece ra l1 c V h.h1)
  have HK22 := Lib.hid (fun V (h : Abd w c e l1 l2 l3 ra rb rc ga gb gc V) => rterms_any c V (HC.out.kept h.bel))
  have HK17 := Lib.hid (fun V (h : Abd w c e l1 l2 l3 ra rb rc ga gb gc V) => end_piece rb l2 c V h.h2)
  have HK18 := Lib.hid (fun V (h : Abd w c e l1 l2 l3 ra rb rc ga gb gc V) => rend_any c V (HC.out.kept h.bel))
  have HK19 := Lib.hid (fun V (h : Abd w c e l1 l2 l3 ra rb rc ga gb gc V) => back_piece rc l3 c V h.h3)
  have HK20 := Lib.hid (fun V (h : Abd w c e l1 l2 l3 ra rb rc ga gb gc V) => rback_all c V (HC.out.kept h.bel))
  have HLE := Lib.hid (show (endL c.kind c.reserve (c.es.map Ent.d)).length ≤ 5864062014634 by have := endL_le c.kind c.reserve (c.es.map Ent.d); have := HC.out.mx; rw [List.length_map] at *; omega)
  have HLB := Lib.hid (show (backP (c.es.map Ent.d) c.es.length).length ≤ 5864062014634 by have := backP_le (c.es.map Ent.d) c.es.length; have := HC.out.mx; omega)
  generalize termsV c.kind c.by' c.to' c.want c.price c.reserve c.step c.of' (c.es.map Ent.d) = tv at *
  generalize endL c.kind c.reserve (c.es.map Ent.d) = eL at *
  generalize backP (c.es.map Ent.d) c.es.length = bL at *
  unfold Con.agg at HK21 HK22 HK17 HK18 HK19 HK20
  have htv : (tv != tv) = false := by simp
  obtain ⟨ax0, ax1, ax2, ax3, ax4, ax5, ax6, ax7, ax8, ax9, ax10⟩ := (HA.out.b1).cells; obtain ⟨ay0, ay1, ay2, ay3, ay4, ay5, ay6, ay7, ay8, ay9, ay10⟩ := (HA.out.b2).cells; obtain ⟨az0, az1, az2, az3, az4, az5, az6, az7, az8, az9, az10⟩ := (HA.out.b3).cells; obtain ⟨ac0, ac1, ac2, ac3, ac4, ac5, ac6, ac7, ac8, ac9, ac10⟩ := (HA.out.bc).cells
  go_wp2
  have hA0 : Abd w c e l1 l2 l3 ra rb rc ga gb gc w4.drew := HA.out.kept ((Qt.drewN w4 1).below _)
  go_region_held3 (fun V => V.cell? ⟨ga, 0, none⟩ = some (.int .i64 l1.num) ∧ V.cell? ⟨ga, 1, none⟩ = some (.int .i64 l1.kind) ∧ V.cell? ⟨ga, 2, none⟩ = some (.int .i64 l1.by') ∧ V.cell? ⟨ga, 3, none⟩ = some (.int .i64 l1.dl) ∧ V.cell? ⟨ga, 4, none⟩ = some (.int .i64 l1.to') ∧ V.cell? ⟨ga, 5, none⟩ = some (.int .i64 l1.want) ∧ V.cell? ⟨ga, 6, none⟩ = some (.int .u64 l1.price) ∧ V.cell? ⟨ga, 7, none⟩ = some (.int .u64 l1.reserve) ∧ V.cell? ⟨ga, 8, none⟩ = some (.int .u64 l1.step) ∧ V.cell? ⟨ga, 9, none⟩ = some (.int .i64 l1.of') ∧ V.cell? ⟨ga, 10, none⟩ = some (.slice l1.ea l1.es.length l1.ec) ∧ V.cell? ⟨gb, 0, none⟩ = some (.int .i64 l2.num) ∧ V.cell? ⟨gb, 1, none⟩ = some (.int .i64 l2.kind) ∧ V.cell? ⟨gb, 2, none⟩ = some (.int .i64 l2.by') ∧ V.cell? ⟨gb, 3, none⟩ = some (.int .i64 l2.dl) ∧ V.cell? ⟨gb, 4, none⟩ = some (.int .i64 l2.to') ∧ V.cell? ⟨gb, 5, none⟩ = some (.int .i64 l2.want) ∧ V.cell? ⟨gb, 6, none⟩ = some (.int .u64 l2.price) ∧ V.cell? ⟨gb, 7, none⟩ = some (.int .u64 l2.reserve) ∧ V.cell? ⟨gb, 8, none⟩ = some (.int .u64 l2.step) ∧ V.cell? ⟨gb, 9, none⟩ = some (.int .i64 l2.of') ∧ V.cell? ⟨gb, 10, none⟩ = some (.slice l2.ea l2.es.length l2.ec) ∧ V.cell? ⟨gc, 0, none⟩ = some (.int .i64 l3.num) ∧ V.cell? ⟨gc, 1, none⟩ = some (.int .i64 l3.kind) ∧ V.cell? ⟨gc, 2, none⟩ = some (.int .i64 l3.by') ∧ V.cell? ⟨gc, 3, none⟩ = some (.int .i64 l3.dl) ∧ V.cell? ⟨gc, 4, none⟩ = some (.int .i64 l3.to') ∧ V.cell? ⟨gc, 5, none⟩ = some (.int .i64 l3.want) ∧ V.cell? ⟨gc, 6, none⟩ = some (.int .u64 l3.price) ∧ V.cell? ⟨gc, 7, none⟩ = some (.int .u64 l3.reserve) ∧ V.cell? ⟨gc, 8, none⟩ = some (.int .u64 l3.step) ∧ V.cell? ⟨gc, 9, none⟩ = some (.int .i64 l3.of') ∧ V.cell? ⟨gc, 10, none⟩ = some (.slice l3.ea l3.es.length l3.ec) ∧ V.cell? ⟨w.heap.size, 0, none⟩ = some (.int .i64 c.num) ∧ V.cell? ⟨w.heap.size, 1, none⟩ = some (.int .i64 c.kind) ∧ V.cell? ⟨w.heap.size, 2, none⟩ = some (.int .i64 c.by') ∧ V.cell? ⟨w.heap.size, 3, none⟩ = some (.int .i64 c.dl) ∧ V.cell? ⟨w.heap.size, 4, none⟩ = some (.int .i64 c.to') ∧ V.cell? ⟨w.heap.size, 5, none⟩ = some (.int .i64 c.want) ∧ V.cell? ⟨w.heap.size, 6, none⟩ = some (.int .u64 c.price) ∧ V.cell? ⟨w.heap.size, 7, none⟩ = some (.int .u64 c.reserve) ∧ V.cell? ⟨w.heap.size, 8, none⟩ = some (.int .u64 c.step) ∧ V.cell? ⟨w.heap.size, 9, none⟩ = some (.int .i64 c.of') ∧ V.cell? ⟨w.heap.size, 10, none⟩ = some (.slice c.ea c.es.length c.ec)) (go_keep)
    ((first
      | (go_at_call 21; (with_reducible refine (HK21.out _ hA0).mono ?_); rintro r1 y1 ⟨rfl, hb1⟩; have hA1 := hA0.kept hb1; obtain ⟨bx0, bx1, bx2, bx3, bx4, bx5, bx6, bx7, bx8, bx9, bx10⟩ := (hA1.b1).cells; obtain ⟨by0, by1, by2, by3, by4, by5, by6, by7, by8, by9, by10⟩ := (hA1.b2).cells; obtain ⟨bz0, bz1, bz2, bz3, bz4, bz5, bz6, bz7, bz8, bz9, bz10⟩ := (hA1.b3).cells; obtain ⟨bc0, bc1, bc2, bc3, bc4, bc5, bc6, bc7, bc8, bc9, bc10⟩ := (hA1.bc).cells)
      | (go_at_call 13; (with_reducible refine (num_any _ _).mono ?_); rintro r2 y2 ⟨rfl, rfl⟩)
      | (go_at_call 22; (with_reducible refine (HK22.out _ hA1).mono ?_); rintro r3 y3 ⟨rfl, hb3⟩; have hA3 := hA1.kept hb3; obtain ⟨dx0, dx1, dx2, dx3, dx4, dx5, dx6, dx7, dx8, dx9, dx10⟩ := (hA3.b1).cells; obtain ⟨dy0, dy1, dy2, dy3, dy4, dy5, dy6, dy7, dy8, dy9, dy10⟩ := (hA3.b2).cells; obtain ⟨dz0, dz1, dz2, dz3, dz4, dz5, dz6, dz7, dz8, dz9, dz10⟩ := (hA3.b3).cells; obtain ⟨dc0, dc1, dc2, dc3, dc4, dc5, dc6, dc7, dc8, dc9, dc10⟩ := (hA3.bc).cells)
      | (go_at_call 17; (with_reducible refine (HK17.out _ hA3).mono ?_); rintro r4 y4 ⟨⟨a4, c4, rfl, ho4⟩, hb4⟩; have hA4 := hA3.kept hb4; obtain ⟨fx0, fx1, fx2, fx3, fx4, fx5, fx6, fx7, fx8, fx9, fx10⟩ := (hA4.b1).cells; obtain ⟨fy0, fy1, fy2, fy3, fy4, fy5, fy6, fy7, fy8, fy9, fy10⟩ := (hA4.b2).cells; obtain ⟨fz0, fz1, fz2, fz3, fz4, fz5, fz6, fz7, fz8, fz9, fz10⟩ := (hA4.b3).cells; obtain ⟨fc0, fc1, fc2, fc3, fc4, fc5, fc6, fc7, fc8, fc9, fc10⟩ := (hA4.bc).cells)
      | (go_at_call 18; (with_reducible refine (HK18.out _ hA4).mono ?_); rintro r5 y5 ⟨⟨a5, c5, rfl, ho5⟩, hb5⟩; have hA5 := hA4.kept hb5; have hs4 := (own_sl (owns_below (B := 0) ho4 hb5)).2; have hs5 := (own_sl ho5).2; obtain ⟨gx0, gx1, gx2, gx3, gx4, gx5, gx6, gx7, gx8, gx9, gx10⟩ := (hA5.b1).cells; obtain ⟨gy0, gy1, gy2, gy3, gy4, gy5, gy6, gy7, gy8, gy9, gy10⟩ := (hA5.b2).cells; obtain ⟨gz0, gz1, gz2, gz3, gz4, gz5, gz6, gz7, gz8, gz9, gz10⟩ := (hA5.b3).cells; obtain ⟨gc0, gc1, gc2, gc3, gc4, gc5, gc6, gc7, gc8, gc9, gc10⟩ := (hA5.bc).cells)
      | (go_at_call 14; (with_reducible refine (gifts_true a4 a5 c4 c5 eL _ HLE.out hs4 hs5).mono ?_); rintro r6 y6 ⟨rfl, hq6⟩; have hA6 := hA5.kept (hq6.below _); obtain ⟨hx0, hx1, hx2, hx3, hx4, hx5, hx6, hx7, hx8, hx9, hx10⟩ := (hA6.b1).cells; obtain ⟨hy0, hy1, hy2, hy3, hy4, hy5, hy6, hy7, hy8, hy9, hy10⟩ := (hA6.b2).cells; obtain ⟨hz0, hz1, hz2, hz3, hz4, hz5, hz6, hz7, hz8, hz9, hz10⟩ := (hA6.b3).cells; obtain ⟨hc0, hc1, hc2, hc3, hc4, hc5, hc6, hc7, hc8, hc9, hc10⟩ := (hA6.bc).cells)
      | (go_at_call 19; (with_reducible refine (HK19.out _ hA6).mono ?_); rintro r7 y7 ⟨⟨a7, c7, rfl, ho7⟩, hb7⟩; have hA7 := hA6.kept hb7; obtain ⟨ix0, ix1, ix2, ix3, ix4, ix5, ix6, ix7, ix8, ix9, ix10⟩ := (hA7.b1).cells; obtain ⟨iy0, iy1, iy2, iy3, iy4, iy5, iy6, iy7, iy8, iy9, iy10⟩ := (hA7.b2).cells; obtain ⟨iz0, iz1, iz2, iz3, iz4, iz5, iz6, iz7, iz8, iz9, iz10⟩ := (hA7.b3).cells; obtain ⟨ic0, ic1, ic2, ic3, ic4, ic5, ic6, ic7, ic8, ic9, ic10⟩ := (hA7.bc).cells)
      | (go_at_call 20; (with_reducible refine (HK20.out _ hA7).mono ?_); rintro r8 y8 ⟨⟨a8, c8, rfl, ho8⟩, hb8⟩; have hA8 := hA7.kept hb8; have hs7 := (own_sl (owns_below (B := 0) ho7 hb8)).2; have hs8 := (own_sl ho8).2; obtain ⟨jx0, jx1, jx2, jx3, jx4, jx5, jx6, jx7, jx8, jx9, jx10⟩ := (hA8.b1).cells; obtain ⟨jy0, jy1, jy2, jy3, jy4, jy5, jy6, jy7, jy8, jy9, jy10⟩ := (hA8.b2).cells; obtain ⟨jz0, jz1, jz2, jz3, jz4, jz5, jz6, jz7, jz8, jz9, jz10⟩ := (hA8.b3).cells; obtain ⟨jc0, jc1, jc2, jc3, jc4, jc5, jc6, jc7, jc8, jc9, jc10⟩ := (hA8.bc).cells)
      | (go_at_call 14; (with_reducible refine (gifts_true a7 a8 c7 c8 bL _ HLB.out hs7 hs8).mono ?_); rintro r9 y9 ⟨rfl, hq9⟩; have hA9 := hA8.kept (hq9.below _); obtain ⟨kx0, kx1, kx2, kx3, kx4, kx5, kx6, kx7, kx8, kx9, kx10⟩ := (hA9.b1).cells; obtain ⟨ky0, ky1, ky2, ky3, ky4, ky5, ky6, ky7, ky8, ky9, ky10⟩ := (hA9.b2).cells; obtain ⟨kz0, kz1, kz2, kz3, kz4, kz5, kz6, kz7, kz8, kz9, kz10⟩ := (hA9.b3).cells; obtain ⟨kc0, kc1, kc2, kc3, kc4, kc5, kc6, kc7, kc8, kc9, kc10⟩ := (hA9.bc).cells)))
  have HA9 := Lib.hid hA9
  clear hA0 hA1 hA3 hA4 hA5 hA6 hA7 hA8 hA9 hb1 hb3 hb4 hb5 hb7 hb8 hq6 hq9 ho4 ho5 ho7 ho8 hs4 hs5 hs7 hs8 HK21 HK22 HK17 HK18 HK19 HK20 htv HLE HLB HA ax0 ax1 ax2 ax3 ax4 ax5 ax6 ax7 ax8 ax9 ax10 ay0 ay1 ay2 ay3 ay4 ay5 ay6 ay7 ay8 ay9 ay10 az0 az1 az2 az3 az4 az5 az6 az7 az8 az9 az10 ac0 ac1 ac2 ac3 ac4 ac5 ac6 ac7 ac8 ac9 ac10 bx0 bx1 bx2 bx3 bx4 bx5 bx6 bx7 bx8 bx9 bx10 by0 by1 by2 by3 by4 by5 by6 by7 by8 by9 by10 bz0 bz1 bz2 bz3 bz4 bz5 bz6 bz7 bz8 bz9 bz10 bc0 bc1 bc2 bc3 bc4 bc5 bc6 bc7 bc8 bc9 bc10 dx0 dx1 dx2 dx3 dx4 dx5 dx6 dx7 dx8 dx9 dx10 dy0 dy1 dy2 dy3 dy4 dy5 dy6 dy7 dy8 dy9 dy10 dz0 dz1 dz2 dz3 dz4 dz5 dz6 dz7 dz8 dz9 dz10 dc0 dc1 dc2 dc3 dc4 dc5 dc6 dc7 dc8 dc9 dc10 fx0 fx1 fx2 fx3 fx4 fx5 fx6 fx7 fx8 fx9 fx10 fy0 fy1 fy2 fy3 fy4 fy5 fy6 fy7 fy8 fy9 fy10 fz0 fz1 fz2 fz3 fz4 fz5 fz6 fz7 fz8 fz9 fz10 fc0 fc1 fc2 fc3 fc4 fc5 fc6 fc7 fc8 fc9 fc10 gx0 gx1 gx2 gx3 gx4 gx5 gx6 gx7 gx8 gx9 gx10 gy0 gy1 gy2 gy3 gy4 gy5 gy6 gy7 gy8 gy9 gy10 gz0 gz1 gz2 gz3 gz4 gz5 gz6 gz7 gz8 gz9 gz10 gc0 gc1 gc2 gc3 gc4 gc5 gc6 gc7 gc8 gc9 gc10 hx0 hx1 hx2 hx3 hx4 hx5 hx6 hx7 hx8 hx9 hx10 hy0 hy1 hy2 hy3 hy4 hy5 hy6 hy7 hy8 hy9 hy10 hz0 hz1 hz2 hz3 hz4 hz5 hz6 hz7 hz8 hz9 hz10 hc0 hc1 hc2 hc3 hc4 hc5 hc6 hc7 hc8 hc9 hc10 ix0 ix1 ix2 ix3 ix4 ix5 ix6 ix7 ix8 ix9 ix10 iy0 iy1 iy2 iy3 iy4 iy5 iy6 iy7 iy8 iy9 iy10 iz0 iz1 iz2 iz3 iz4 iz5 iz6 iz7 iz8 iz9 iz10 ic0 ic1 ic2 ic3 ic4 ic5 ic6 ic7 ic8 ic9 ic10 jx0 jx1 jx2 jx3 jx4 jx5 jx6 jx7 jx8 jx9 jx10 jy0 jy1 jy2 jy3 jy4 jy5 jy6 jy7 jy8 jy9 jy10 jz0 jz1 jz2 jz3 jz4 jz5 jz6 jz7 jz8 jz9 jz10 jc0 jc1 jc2 jc3 jc4 jc5 jc6 jc7 jc8 jc9 jc10
  have HK1 := Lib.hid (kept_piece ra l1 c y9 HA9.out.h1 (HC.out.kept HA9.out.bel))
  unfold Con.agg at HK1
  go_wp2_with fail
  refine HK1.out.mono ?_
  rintro r10 z1 ⟨rfl, ho1⟩
  have HC1 := Lib.hid (HA9.out.cb.only ho1 N.out.2.2.2.2.2.1)
  have HB2 := Lib.hid (HA9.out.b2.only ho1 (Rng.not N.out.2.1.2.1))
  have HB3 := Lib.hid (HA9.out.b3.only ho1 (Rng.not N.out.2.1.2.2))
  have HL2 := Lib.hid (HA9.out.h2.off ho1 N.out.2.2.2.2.1.1.symm)
  have HL3 := Lib.hid (HA9.out.h3.off ho1 N.out.2.2.2.2.1.2.1.symm)
  have HK2 := Lib.hid (kept_piece rb l2 c z1 HL2.out (HC.out.kept HC1.out.bel))
  unfold Con.agg at HK2
  clear ho1 HK1 HA9 kx0 kx1 kx2 kx3 kx4 kx5 kx6 kx7 kx8 kx9 kx10 ky0 ky1 ky2 ky3 ky4 ky5 ky6 ky7 ky8 ky9 ky10 kz0 kz1 kz2 kz3 kz4 kz5 kz6 kz7 kz8 kz9 kz10 kc0 kc1 kc2 kc3 kc4 kc5 kc6 kc7 kc8 kc9 kc10
  obtain ⟨ax0, ax1, ax2, ax3, ax4, ax5, ax6, ax7, ax8, ax9, ax10⟩ := HB2.out.cells
  obtain ⟨ac0, ac1, ac2, ac3, ac4, ac5, ac6, ac7, ac8, ac9, ac10⟩ := HC1.out.bc.cells
  go_wp2_with fail
  refine HK2.out.mono ?_
  rintro r10' z2 ⟨rfl, ho2⟩
  have HC2 := Lib.hid (HC1.out.only ho2 N.out.2.2.2.2.2.2.1)
  have HB3 := Lib.hid (HB3.out.only ho2 (Rng.not N.out.2.2.1.2.2))
  have HL3 := Lib.hid (HL3.out.off ho2 N.out.2.2.2.2.1.2.2.symm)
  have HK3 := Lib.hid (kept_piece rc l3 c z2 HL3.out (HC.out.kept HC2.out.bel))
  unfold Con.agg at HK3
  clear ho2 HK2 HC1 HB2 HL2 ax0 ax1 ax2 ax3 ax4 ax5 ax6 ax7 ax8 ax9 ax10 ac0 ac1 ac2 ac3 ac4 ac5 ac6 ac7 ac8 ac9 ac10
  obtain ⟨ax0, ax1, ax2, ax3, ax4, ax5, ax6, ax7, ax8, ax9, ax10⟩ := HB3.out.cells
  obtain ⟨ac0, ac1, ac2, ac3, ac4, ac5, ac6, ac7, ac8, ac9, ac10⟩ := HC2.out.bc.cells
  go_wp2_with fail
  refine HK3.out.mono ?_
  rintro r10'' z3 ⟨rfl, ho3⟩
  have HC3 := Lib.hid (HC2.out.only ho3 N.out.2.2.2.2.2.2.2)
  clear ho3 HK3 HC2 HL3 ax0 ax1 ax2 ax3 ax4 ax5 ax6 ax7 ax8 ax9 ax10 ac0 ac1 ac2 ac3 ac4 ac5 ac6 ac7 ac8 ac9 ac10
  go_wp2
  refine lend2 rfl (by kernel_rfl) ⟨{ on := 0, ground := .data }, by simp, rfl, rfl⟩ ⟨{ on := 2, ground := .data }, by simp, rfl, rfl⟩ (by simp) w.heap.size (w.heap.size + 1) rfl rfl c e HC3.out.bc HC3.out.be (HC.out.kept HC3.out.bel) (HE.out.kept HC3.out.bel) ?_ (fun _ => undef) rfl
  intro x R2 v1 hP2 k63 q1 k65 q3 q4 q5
  obtain ⟨l4, hx64, hL4⟩ := q1
  obtain ⟨x4, hx66, hX4⟩ := q3
  obtain ⟨hx8, hz8, hr8⟩ := q4
  obtain ⟨hx9, hz9, hr9⟩ := q5
  simp only [putsF, List.foldl_cons, List.foldl_nil, Act.put, List.setIfInBounds_toArray, List.set_cons_zero, List.set_cons_succ, k63, k65, hx64, hx66, hx8, hx9]
  unfold Con.agg Ent.agg
  have HL4 := Lib.hid hL4
  have HX4 := Lib.hid hX4
  have HZ8 := Lib.hid hz8
  have HZ9 := Lib.hid hz9
  have HV1 := Lib.hid (HC3.out.kept hP2.bel)
  have hws := lt_row HC3.out.be
  obtain ⟨rd, hrd⟩ : ∃ r, r = R2 1 := ⟨_, rfl⟩
  obtain ⟨re, hre⟩ : ∃ r, r = R2 3 := ⟨_, rfl⟩
  obtain ⟨gd, hgd⟩ : ∃ r, r = (R2 4).1 := ⟨_, rfl⟩
  obtain ⟨ge, hge⟩ : ∃ r, r = (R2 5).1 := ⟨_, rfl⟩
  have N2 := Lib.hid (show (gd ≠ ge ∧ w.heap.size + 1 < gd ∧ w.heap.size + 1 < ge) ∧ ((gd < rd.1 ∨ rd.2 ≤ gd) ∧ (ge < rd.1 ∨ rd.2 ≤ ge)) ∧ ((gd < re.1 ∨ re.2 ≤ gd) ∧ (ge < re.1 ∨ re.2 ≤ ge)) ∧ (rd.2 ≤ re.1 ∨ re.2 ≤ rd.1) ∧ w.heap.size + 1 < rd.1 ∧ w.heap.size + 1 < re.1 ∧ rd.2 ≤ v1.heap.size ∧ re.2 ≤ v1.heap.size ∧ gd < v1.heap.size ∧ ge < v1.heap.size by
    have d45 := hP2.off 4 5 (by decide) rfl rfl
    have d14 := hP2.off 1 4 (by decide) rfl rfl
    have d15 := hP2.off 1 5 (by decide) rfl rfl
    have d34 := hP2.off 3 4 (by decide) rfl rfl
    have d35 := hP2.off 3 5 (by decide) rfl rfl
    have d13 := hP2.off 1 3 (by decide) rfl rfl
    have i1 := hP2.in' 1 rfl
    have i3 := hP2.in' 3 rfl
    have i4 := hP2.in' 4 rfl
    have i5 := hP2.in' 5 rfl
    rw [hrd, hre, hgd, hge]
    refine ⟨⟨?_, ?_, ?_⟩, ⟨?_, ?_⟩, ⟨?_, ?_⟩, ?_, ?_, ?_, ?_, ?_, ?_, ?_⟩ <;> omega)
  rw [← hrd] at HL4
  rw [← hre] at HX4
  rw [← hgd] at HZ8 ⊢
  rw [← hge] at HZ9 ⊢
  clear hrd hre hgd hge hP2 k63 k65 hx64 hx66 hx8 hx9 hL4 hX4 hz8 hz9 hr8 hr9 hws HC3
  refine wpList_store_lit 25 gd 0 #[.int .i64 l4.num, .int .i64 l4.kind, .int .i64 l4.by', .int .i64 l4.dl, .int .i64 l4.to', .int .i64 l4.want, .int .u64 l4.price, .int .u64 l4.reserve, .int .u64 l4.step, .int .i64 l4.of', .slice l4.ea l4.es.length l4.ec] (.agg #[.int .i64 l4.num, .int .i64 l4.kind, .int .i64 l4.by', .int .i64 l4.dl, .int .i64 l4.to', .int .i64 l4.want, .int .u64 l4.price, .int .u64 l4.reserve, .int .u64 l4.step, .int .i64 l4.of', .slice l4.ea l4.es.length l4.ec]) HZ8.out szC (Nat.le_of_ble_eq_true rfl) rfl rfl (by rfl) (by rfl) ?_
  intro v2 hp4
  refine wpList_store_lit 33 ge 0 #[.int .i64 x4.acc, .int .i64 x4.item, .int .u64 x4.coins, .int .u64 x4.price, .slice x4.wa x4.ws.length x4.wc] (.agg #[.int .i64 x4.acc, .int .i64 x4.item, .int .u64 x4.coins, .int .u64 x4.price, .slice x4.wa x4.ws.length x4.wc]) (hp4.row HZ9.out (fun h => N2.out.1.1 h.symm)) szE (Nat.le_of_ble_eq_true rfl) rfl rfl (by rfl) (by rfl) ?_
  intro v3 hp5
  have HI := Lib.hid (show Ins w c e l4 x4 rd re gd ge v3 by
    obtain ⟨⟨n1, n2, n3⟩, ⟨a1, a2⟩, ⟨b1, b2⟩, _⟩ := N2.out
    have hb2 := hp4.below HV1.out.bel HV1.out.bel.size (by omega)
    exact ⟨⟨hp5.below hb2 hb2.size (by omega), hp5.row (hp4.row HV1.out.bc (by omega)) (by omega), hp5.row (hp4.row HV1.out.be (by omega)) (by omega)⟩, hp5.row hp4.at' n1, hp5.at', (HL4.out.put hp4 a1).put hp5 a2, (HX4.out.put hp4 b1).put hp5 b2⟩)
  have HSZ := Lib.hid (show v3.heap.size = v1.heap.size by rw [hp5.size, hp4.size])
  clear hp4 hp5 HZ8 HZ9 HL4 HX4 HV1
  have HK10 := Lib.hid (join_piece l4 c x4 e v3 HI.out.hl.mark.ok HI.out.hx.mark.ok HI.out.hl.d HI.out.hx.d)
  unfold Con.agg Ent.agg at HK10
  obtain ⟨ax0, ax1, ax2, ax3, ax4, ax5, ax6, ax7, ax8, ax9, ax10⟩ := HI.out.bl.cells
  obtain ⟨ac0, ac1, ac2, ac3, ac4⟩ := cells5 HI.out.bx
  go_wp2_with fail
  refine HK10.out.mono ?_
  rintro r11 v4 ⟨d1, ad1, cp1, rfl, hb4, hN1, hg1, hd1⟩
  have HI4 := Lib.hid (HI.out.kept hb4)
  have HN1 := Lib.hid hN1
  have HG1 := Lib.hid hg1
  have HD1 := Lib.hid hd1
  have HB4 := Lib.hid hb4
  clear hb4 hN1 hg1 hd1 HK10 HI ax0 ax1 ax2 ax3 ax4 ax5 ax6 ax7 ax8 ax9 ax10 ac0 ac1 ac2 ac3 ac4
  have HA4 := Lib.hid (fun X => (Below.refl v4.heap.size v4).alloc (Nat.le_refl _) X)
  obtain ⟨ac0, ac1, ac2, ac3, ac4, ac5, ac6, ac7, ac8, ac9, ac10⟩ := HI4.out.cb.bc.cellsA
  have ae0 := fun X => (cells5 (HI4.out.cb.be.kept (HA4.out X))).1
  have ae1 := fun X => (cells5 (HI4.out.cb.be.kept (HA4.out X))).2.1
  have ae2 := fun X => (cells5 (HI4.out.cb.be.kept (HA4.out X))).2.2.1
  have ae3 := fun X => (cells5 (HI4.out.cb.be.kept (HA4.out X))).2.2.2.1
  have ae4 := fun X => (cells5 (HI4.out.cb.be.kept (HA4.out X))).2.2.2.2
  have HK12 := Lib.hid (fun V (h : Below w.heap.size w V) => rjoin_piece c e V (HC.out.kept h) (HE.out.kept h))
  unfold Con.agg Ent.agg at HK12
  go_wp2_with fail
  obtain ⟨V1, hV1⟩ : ∃ V, V = v4.alloc (.cells #[.int .i64 d1.num, .int .i64 d1.kind, .int .i64 d1.by', .int .i64 d1.dl, .int .i64 d1.to', .int .i64 d1.want, .int .u64 d1.price, .int .u64 d1.reserve, .int .u64 d1.step, .int .i64 d1.of', .slice d1.ea d1.es.length d1.ec] 25) := ⟨_, rfl⟩
  have HV1b := Lib.hid (show Below v4.heap.size v4 V1 by rw [hV1]; exact HA4.out _)
  have HV1m := Lib.hid (show Box V1 v4.heap.size d1 by rw [hV1]; exact alloc_at rfl)
  rw [← hV1]
  clear hV1 ac0 ac1 ac2 ac3 ac4 ac5 ac6 ac7 ac8 ac9 ac10 ae0 ae1 ae2 ae3 ae4 HA4
  refine (HK12.out V1 (HI4.out.cb.bel.trans (HV1b.out.mono HI4.out.cb.bel.size))).mono ?_
  rintro r12 v5 ⟨d2, ad2, cp2, rfl, hb5, hN2, hg2, hd2⟩
  have HB5 := Lib.hid hb5
  have HN2 := Lib.hid hN2
  have HG2 := Lib.hid hg2
  have HD2 := Lib.hid hd2
  clear hb5 hN2 hg2 hd2 HK12
  go_wp2_with fail
  obtain ⟨v6, hv6⟩ : ∃ V, V = v5.alloc (.cells #[.int .i64 d2.num, .int .i64 d2.kind, .int .i64 d2.by', .int .i64 d2.dl, .int .i64 d2.to', .int .i64 d2.want, .int .u64 d2.price, .int .u64 d2.reserve, .int .u64 d2.step, .int .i64 d2.of', .slice d2.ea d2.es.length d2.ec] 25) := ⟨_, rfl⟩
  have HO := Lib.hid (show Out w c e l4 x4 rd re gd ge d1 d2 v4.heap.size v5.heap.size v3.heap.size V1.heap.size v6 by
    have hA5 : Below v5.heap.size v5 v6 := by rw [hv6]; exact (Below.refl _ _).alloc (Nat.le_refl _) _
    exact ⟨((HI4.out.kept HV1b.out).kept HB5.out).kept hA5, (HV1m.out.kept HB5.out).kept hA5, by rw [hv6]; exact alloc_at rfl, ((HN1.out.kept HV1b.out).kept HB5.out).kept hA5, HN2.out.kept hA5⟩)
  have HS1 := Lib.hid (show Sl v6 ad1 (gFlat (joinGs c e)) ∧ Sl v6 ad2 (gFlat (joinGs c e)) by
    have hA5 : Below v5.heap.size v5 v6 := by rw [hv6]; exact (Below.refl _ _).alloc (Nat.le_refl _) _
    exact ⟨(((own_sl HG1.out).2.kept HV1b.out).kept HB5.out).kept hA5, (own_sl HG2.out).2.kept hA5⟩)
  have HM := Lib.hid (show v1.heap.size ≤ v3.heap.size ∧ v3.heap.size ≤ v4.heap.size ∧ v4.heap.size ≤ V1.heap.size ∧ V1.heap.size ≤ v5.heap.size from ⟨Nat.le_of_eq HSZ.out.symm, HB4.out.size, HV1b.out.size, HB5.out.size⟩)
  rw [← hv6]
  clear hv6 HI4 HV1b HV1m HB5 HB4 HN1 HN2 HG1 HG2
  have HGL := Lib.hid (show (joinGs c e).length ≤ 5864062014634 by have := joinGs_le c e; omega)
  generalize joinGs c e = jg at *
  generalize c.joinV' e = jv at *
  have hjv : (jv != jv) = false := by simp
  refine (num_any jv v6).mono ?_
  rintro r13 v7 ⟨rfl, rfl⟩
  go_wp2_with fail
  refine (gifts_true ad1 ad2 cp1 cp2 jg _ HGL.out HS1.out.1 HS1.out.2).mono ?_
  rintro r14 v8 ⟨rfl, hq8⟩
  have HO8 := Lib.hid (HO.out.kept (hq8.below _))
  clear hq8 HO HS1
  have HK15 := Lib.hid (fun V (h : Out w c e l4 x4 rd re gd ge d1 d2 v4.heap.size v5.heap.size v3.heap.size V1.heap.size V) => sameCon_true d1 d2 V h.n1.ok h.n2.ok (HD1.out.trans HD2.out.symm))
  have HK23 := Lib.hid (fun V (h : Out w c e l4 x4 rd re gd ge d1 d2 v4.heap.size v5.heap.size v3.heap.size V1.heap.size V) => sameEntry_true x4 e V h.ins.hx.mark.ok (HE.out.kept h.ins.cb.bel) h.ins.hx.d)
  have HK24 := Lib.hid (fun V (h : Out w c e l4 x4 rd re gd ge d1 d2 v4.heap.size v5.heap.size v3.heap.size V1.heap.size V) => marked_true x4 re.1 V h.ins.hx.mark)
  unfold Con.agg at HK15
  unfold Ent.agg at HK23 HK24
  obtain ⟨ax0, ax1, ax2, ax3, ax4, ax5, ax6, ax7, ax8, ax9, ax10⟩ := HO8.out.b1.cells
  obtain ⟨ac0, ac1, ac2, ac3, ac4, ac5, ac6, ac7, ac8, ac9, ac10⟩ := HO8.out.b2.cells
  go_wp2_with fail
  refine (HK15.out _ HO8.out).mono ?_
  rintro r15 v9 ⟨rfl, hb9⟩
  have HO9 := Lib.hid (HO8.out.kept hb9)
  clear hb9 HO8 ax0 ax1 ax2 ax3 ax4 ax5 ax6 ax7 ax8 ax9 ax10 ac0 ac1 ac2 ac3 ac4 ac5 ac6 ac7 ac8 ac9 ac10
  obtain ⟨ax0, ax1, ax2, ax3, ax4⟩ := cells5 HO9.out.ins.bx
  obtain ⟨ac0, ac1, ac2, ac3, ac4⟩ := cells5 HO9.out.ins.cb.be
  go_wp2_with fail
  refine (HK23.out _ HO9.out).mono ?_
  rintro r16 v10 ⟨rfl, hb10⟩
  have HO10 := Lib.hid (HO9.out.kept hb10)
  clear hb10 HO9 ax0 ax1 ax2 ax3 ax4 ac0 ac1 ac2 ac3 ac4
  obtain ⟨ax0, ax1, ax2, ax3, ax4⟩ := cells5 HO10.out.ins.bx
  go_wp2_with fail
  refine (HK24.out _ HO10.out).mono ?_
  rintro r17 v11 ⟨rfl, hb11⟩
  have HO11 := Lib.hid (HO10.out.kept hb11)
  clear hb11 HO10 ax0 ax1 ax2 ax3 ax4 HK23 HK24
  obtain ⟨gw, cw, hwa, hgw, hcw⟩ := HO11.out.ins.hx.mark.rowW
  have HGW := Lib.hid hgw
  have HRW := Lib.hid (show Rng re gw from HO11.out.ins.hx.lo gw (by rw [hwa]; rfl))
  have hmx := HO11.out.ins.hx.mark.mx
  have HWA := Lib.hid hwa
  clear hgw hwa
  go_wp2
  go_loopw [18] (fun i wr => ∃ (q : Nat) (cw : Array Value), q ≤ x4.ws.length ∧ i = .int .i64 q ∧ x4.ws.length + 2 ≤ cw.size ∧ Only (Rng re) v11 wr ∧ wr.heap[gw]? = some (.cells cw 3 (0, 0))) (fun i _ => x4.ws.length - (intOf i).toNat)
  case atStart => exact ⟨0, cw, by omega, rfl, hcw, Only.refl _ _, HGW.out⟩
  case round =>
    clear hcw HGW
    obtain ⟨q, cw', hq, rfl, hcw, ho, hrw⟩ := hrel
    have HOO := Lib.hid ho
    have HRG := Lib.hid hrw
    have bx' : BoxE wr ge x4 := ho.row HO11.out.ins.bx (Rng.not N2.out.2.2.1.2)
    have z4 := (cells5 bx').2.2.2.2
    rw [HWA.out] at z4
    clear ho hrw bx'
    by_cases hlq : q < x4.ws.length
    · have t0 : decide ((q : Int) < (x4.ws.length : Int)) = true := by simp; omega
      have i2 : (q : Int) < (x4.ws.length : Int) := by omega
      go_wp2_with ((with_reducible refine at_store_op ?_); refine wpList_store_lit 3 gw q (segA cw'.toList q [.int .i64 (-6)]) (.int .i64 (-6)) HRG.out sz3 (by show q + 1 ≤ cw'.size; omega) rfl rfl ?_ ?_ ?_; exact rfl; exact rfl; intro w3 hp3)
      go_roundw
      case rel => exact ⟨q + 1, _, by omega, by go_num, by rw [segA_size _ _ _ (by simp; omega)]; simpa using hcw, HOO.out.trans hp3.only (fun n hn => .inl (hn ▸ HRW.out)), hp3.at'⟩
      case measure => simp [intOf]; omega
    · have t0 : decide ((q : Int) < (x4.ws.length : Int)) = false := by simp; omega
      have HCB := Lib.hid (HO11.out.ins.cb.only HOO.out N2.out.2.2.2.2.2.1)
      have HBL := Lib.hid (HO11.out.ins.bl.only HOO.out (Rng.not N2.out.2.2.1.1))
      have HHL := Lib.hid (HO11.out.ins.hl.off HOO.out N2.out.2.2.2.1)
      have hfar : ∀ k, v1.heap.size ≤ k → ¬ Rng re k := fun k hk h => by have h1 := h.2; have := N2.out.2.2.2.2.2.2.2.1; omega
      have hfar2 : ∀ k, v1.heap.size ≤ k → ¬ Rng rd k := fun k hk h => by have h1 := h.2; have := N2.out.2.2.2.2.2.2.1; omega
      have HFA := Lib.hid hfar2
      have HD1b := Lib.hid (HO11.out.b1.only HOO.out (hfar _ (by have := HM.out; omega)))
      have HD2b := Lib.hid (HO11.out.b2.only HOO.out (hfar _ (by have := HM.out; omega)))
      have HN1 := Lib.hid (HO11.out.n1.only HOO.out (fun k hk => hfar k (by have := HM.out; omega)))
      have HN2 := Lib.hid (HO11.out.n2.only HOO.out (fun k hk => hfar k (by have := HM.out; omega)))
      have HK16 := Lib.hid (kept_piece rd l4 c wr HHL.out (HC.out.kept HCB.out.bel))
      unfold Con.agg at HK16
      clear hfar hfar2 HOO HO11 HRG
      obtain ⟨ax0, ax1, ax2, ax3, ax4, ax5, ax6, ax7, ax8, ax9, ax10⟩ := HBL.out.cells
      obtain ⟨ac0, ac1, ac2, ac3, ac4, ac5, ac6, ac7, ac8, ac9, ac10⟩ := HCB.out.bc.cells
      go_wp2_with fail
      refine HK16.out.mono ?_
      rintro r18 u1 ⟨rfl, ho9⟩
      have HCB2 := Lib.hid (HCB.out.only ho9 N2.out.2.2.2.2.1)
      have HD1c := Lib.hid (HD1b.out.only ho9 (HFA.out _ (by have := HM.out; omega)))
      have HD2c := Lib.hid (HD2b.out.only ho9 (HFA.out _ (by have := HM.out; omega)))
      have hn1 := HN1.out.only ho9 (fun k hk => HFA.out k (by have := HM.out; omega))
      have hn2 := HN2.out.only ho9 (fun k hk => HFA.out k (by have := HM.out; omega))
      have HK := Lib.hid (sameCon_true d1 d2 u1 hn1.ok hn2.ok (HD1.out.trans HD2.out.symm))
      unfold Con.agg at HK
      clear ho9 hn1 hn2 HK16 HK15 ax0 ax1 ax2 ax3 ax4 ax5 ax6 ax7 ax8 ax9 ax10 ac0 ac1 ac2 ac3 ac4 ac5 ac6 ac7 ac8 ac9 ac10
      obtain ⟨ax0, ax1, ax2, ax3, ax4, ax5, ax6, ax7, ax8, ax9, ax10⟩ := HD1c.out.cells
      obtain ⟨ac0, ac1, ac2, ac3, ac4, ac5, ac6, ac7, ac8, ac9, ac10⟩ := HD2c.out.cells
      go_wp2_with fail
      refine HK.out.mono ?_
      rintro r19 u2 ⟨rfl, hb12⟩
      have HFIN := Lib.hid (HCB2.out.bel.trans (hb12.mono HCB2.out.bel.size))
      clear hb12
      go_wp2
      go_ret
      exact ⟨rfl, HFIN.out⟩
theorem own : ownKnob Try.prog.godebug = none := by kernel_rfl
theorem laidOut : laidOutB Try.prog = true := by kernel_rfl
set_option maxRecDepth 100000 in
theorem lifted (os : Os) (started : os.Started) (H : Type) (enc : TypeId × Value → H) :
    ReturnsInHanded {} Try.checked os 4 .any (Rows.auctionRulesSpec.pre6 enc Try.prog Try.f4 Rows.auctionRulesRow.domain false) (Rows.auctionRulesSpec.post enc Try.prog Try.f4 false true false false) := by
  refine returnsInHanded_of_change_sized (C := Try.checked) own started (by kernel_rfl) Try.func4
    (ChangeSpec.witness6 (enc := enc) (C := Try.checked) false ⟨#[], #[.agg #[.int .i64 0, .int .i64 0, .int .i64 0, .int .i64 0, .int .i64 0, .int .i64 0, .int .u64 0, .int .u64 0, .int .u64 0, .int .i64 0, .slice none 0 0], .agg #[.int .i64 0, .int .i64 0, .int .u64 0, .int .u64 0, .slice none 0 0]], []⟩ 8 (by kernel_rfl) (by kernel_rfl) (by kernel_rfl) (by kernel_rfl)) ?_
  intro W base args ds gs before hval0 hW hcnd hsz0 _
  have hsz : (DataW.weightsEach Try.prog (Try.f4.params.toList ++ Rows.auctionRulesSpec.plain.varTypes Try.prog) (ds ++ gs)).all (· ≤ reachBytes) = true := hsz0
  clear hsz0
  have hval : ∀ (j : Nat) t v, Try.f4.params[j]? = some t → args[j]? = some v → Value.okWide Try.prog W .any base t v := hval0
  have hW' := hW
  obtain ⟨p, q, hA0, hV, rfl, hfz, hnd⟩ := hW
  have hA : DataW.TrodAll enc Try.prog W 0 (fun _ => true) true Try.f4.params.toList args.toList ds p := hA0
  rw [Try.params4] at hA hval hsz
  obtain ⟨v0, vs0, d0, ds0, p0, q0, hargs, rfl, rfl, h0, r0⟩ := trodAll_cons hA
  obtain ⟨v1, vs1, d1, ds1, p1, q1, rfl, rfl, rfl, h1, r1⟩ := trodAll_cons r0
  obtain ⟨rfl, rfl, rfl⟩ := trodAll_nil r1
  obtain rfl : args = #[v0, v1] := by cases args; simp_all
  obtain ⟨rfl, rfl⟩ := trodVars_none hV
  have k0 := h0
  have lt0 : ∀ x ∈ p0, x.block < W.heap.size := by obtain ⟨m, hm⟩ := k0; exact DataW.trod_lt m _ _ _ hm
  obtain ⟨c0, rfl, n0⟩ := open_con (hval 0 25 v0 rfl rfl) h0 hsz (j := 0) rfl rfl
  have k1 := h1
  have lt1 : ∀ x ∈ p1, x.block < W.heap.size := by obtain ⟨m, hm⟩ := k1; exact DataW.trod_lt m _ _ _ hm
  obtain ⟨c1, rfl, n1⟩ := open_ent (hval 1 33 v1 rfl rfl) h1 hsz (j := 1) rfl rfl
  clear hA0 hval0
  refine (walk c0 c1 W n0 n1).mono fun e W' ⟨he, bel⟩ => ?_
  subst he
  exact ⟨_, rfl, _, _, _, [], _, [], hW', trodAll_mk1 (shut_bool Try.underlying4 _), (trodAll_cons_mk (Below.trod laidOut (by kernel_rfl) (of_decide_eq_true (by kernel_rfl)) k0 bel lt0) (trodAll_cons_mk (Below.trod laidOut (by kernel_rfl) (of_decide_eq_true (by kernel_rfl)) k1 bel lt1) trodAll_mk0)), rfl, bel.frame _, fun h => by cases h⟩
theorem over : Rows.auctionRulesRow.holds Try.pinned (OpenSpec.ofChange Rows.auctionRulesSpec) :=
  OpenClaim.holds_of_wide 4 Try.f4 rfl rfl rfl rfl rfl rfl rfl ⟨rfl, rfl, rfl, rfl, rfl⟩ rfl rfl rfl rfl rfl (by kernel_rfl) Try.func4 (by kernel_rfl)
    (of_decide_eq_true (by kernel_rfl)) (by unfold Func.isWrapper; first | (rw [if_pos (by decide +kernel)]; kernel_rfl) | (rw [if_neg (by decide +kernel)]; exact ⟨rfl, rfl⟩))
    (fun os started H enc _ => lifted os started H enc)
theorem proved : Rows.AuctionRulesSaid := over
#print axioms proved
end Go.Proofs.Ytpejcndfplbikaa.lawAuctionRules
