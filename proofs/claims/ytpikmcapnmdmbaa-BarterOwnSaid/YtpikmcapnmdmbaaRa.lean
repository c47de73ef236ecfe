/-
  Layer 22: entries, contracts and gifts that are alike are found alike.
-/
import Derived.Test.YtpikmcapnmdmbaaVg
namespace Go.Proofs.Ytpikmcapnmdmbaa
open Go.RowKit Go.K
set_option linter.unusedVariables false
set_option linter.unusedSimpArgs false
theorem sameEntry_true (x y : Ent) (w : World) (hx : EntOk w x) (hy : EntOk w y) (hd : x.d = y.d) :
    Calls Try.prog 42 #[x.agg, y.agg] w fun e w' => e = .returned (.bool true) ∧ Below w.heap.size w w' := by
  obtain ⟨a1, i1, c1, p1, wa1, wc1, ws1⟩ := x
  obtain ⟨a2, i2, c2, p2, wa2, wc2, ws2⟩ := y
  simp only [Ent.d, Prod.mk.injEq] at hd
  obtain ⟨rfl, rfl, rfl, rfl, rfl⟩ := hd
  have HX := Lib.hid hx.sl
  have HY := Lib.hid hy.sl
  have hm : ws1.length ≤ 17592186043904 := hx.mx
  have e1 : (a1 == a1) = true := by simp
  have e2 : (i1 == i1) = true := by simp
  have e3 : (c1 == c1) = true := by simp
  have e4 : (p1 == p1) = true := by simp
  clear hx hy
  unfold Ent.agg
  go_enter Try.func42, Try.ntmps42
  go_wp2_with fail
  have hb0 : Below w.heap.size w ((w.alloc (.cells #[.int .i64 a1, .int .i64 i1, .int .u64 c1, .int .u64 p1, .slice wa1 ws1.length wc1] 48)).alloc (.cells #[.int .i64 a1, .int .i64 i1, .int .u64 c1, .int .u64 p1, .slice wa2 ws1.length wc2] 48)) :=
    ((Below.refl _ _).alloc (Nat.le_refl _) _).alloc (by simp) _
  refine (same_true wa1 wa2 wc1 wc2 ws1 _ (by omega) (HX.out.kept hb0) (HY.out.kept hb0)).mono ?_
  rintro e w1 ⟨rfl, nq, rfl⟩
  go_wp2
  go_ret
  exact ⟨rfl, hb0.trans ((Qt.drewN _ nq).below _)⟩
set_option maxRecDepth 100000 in
set_option maxHeartbeats 2000000 in
theorem sameCon_true (x y : Con) (w : World) (hx : ConOk w x) (hy : ConOk w y) (hd : x.d = y.d) :
    Calls Try.prog 44 #[x.agg, y.agg] w fun e w' => e = .returned (.bool true) ∧ Below w.heap.size w w' := by
  have HX := Lib.hid hx
  have HY := Lib.hid hy
  obtain ⟨n1, k1, b1, d1, t1, w1, p1, r1, s1, o1, ea1, ec1, es1⟩ := x
  obtain ⟨n2, k2, b2, d2, t2, w2, p2, r2, s2, o2, ea2, ec2, es2⟩ := y
  simp only [Con.d, Prod.mk.injEq] at hd
  obtain ⟨⟨rfl, rfl, rfl, rfl, rfl⟩, ⟨rfl, rfl, rfl, rfl, rfl⟩, hes⟩ := hd
  have hlen : es2.length = es1.length := by have := congrArg List.length hes; simpa using this.symm
  have HE := Lib.hid hes
  have HLN := Lib.hid hlen
  have hm : es1.length ≤ 2513169434843 := hx.mx
  have e1 : (n1 != n1) = false := by simp
  have e2 : (k1 != k1) = false := by simp
  have e3 : (b1 != b1) = false := by simp
  have e4 : (d1 != d1) = false := by simp
  have e5 : (t1 != t1) = false := by simp
  have e6 : (w1 != w1) = false := by simp
  have e7 : (p1 != p1) = false := by simp
  have e8 : (r1 != r1) = false := by simp
  have e9 : (s1 != s1) = false := by simp
  have e10 : (o1 != o1) = false := by simp
  have e11 : ((es1.length : Int) != (es1.length : Int)) = false := by simp
  unfold Con.agg
  simp only [hlen]
  clear hx hy hes hlen
  go_enter Try.func44, Try.ntmps44
  go_wp2
  refine wp_world (fun W => Below w.heap.size w W ∧ W.heap[w.heap.size]? = some (.cells #[.int .i64 n1, .int .i64 k1, .int .i64 b1, .int .i64 d1, .int .i64 t1, .int .i64 w1, .int .u64 p1, .int .u64 r1, .int .u64 s1, .int .i64 o1, .slice ea1 es1.length ec1] 45) ∧
      W.heap[w.heap.size + 1]? = some (.cells #[.int .i64 n1, .int .i64 k1, .int .i64 b1, .int .i64 d1, .int .i64 t1, .int .i64 w1, .int .u64 p1, .int .u64 r1, .int .u64 s1, .int .i64 o1, .slice ea2 es1.length ec2] 45))
    ⟨((Below.refl _ _).alloc (Nat.le_refl _) _).alloc (by simp) _, alloc_old (alloc_at rfl), alloc_at (by simp)⟩ ?_
  intro W hw
  have HW := Lib.hid hw
  clear hw e1 e2 e3 e4 e5 e6 e7 e8 e9 e10 e11
  go_loopw [5] (fun i wr => ∃ k : Nat, k ≤ es1.length ∧ i = .int .i64 k ∧ Below w.heap.size w wr ∧ wr.heap[w.heap.size]? = some (.cells #[.int .i64 n1, .int .i64 k1, .int .i64 b1, .int .i64 d1, .int .i64 t1, .int .i64 w1, .int .u64 p1, .int .u64 r1, .int .u64 s1, .int .i64 o1, .slice ea1 es1.length ec1] 45) ∧
      wr.heap[w.heap.size + 1]? = some (.cells #[.int .i64 n1, .int .i64 k1, .int .i64 b1, .int .i64 d1, .int .i64 t1, .int .i64 w1, .int .u64 p1, .int .u64 r1, .int .u64 s1, .int .i64 o1, .slice ea2 es1.length ec2] 45)) (fun i _ => es1.length - (intOf i).toNat)
  case atStart => exact ⟨0, by omega, rfl, HW.out⟩
  case round =>
    clear HW
    obtain ⟨k, hk, rfl, hb, hr1, hr2⟩ := hrel
    have HW := Lib.hid (And.intro hb (And.intro hr1 hr2))
    have z1 : wr.cell? ⟨w.heap.size, 10, none⟩ = some (.slice ea1 es1.length ec1) := by rw [cell_of_row _ _ _ _ _ _ hr1]; rfl
    clear hb hr1 hr2
    by_cases hlt : k < es1.length
    · have t0 : decide ((k : Int) < (es1.length : Int)) = true := by simp; omega
      have i1 : (k : Int) < (es1.length : Int) := by omega
      have hlt2 : k < es2.length := by rw [HLN.out]; exact hlt
      have hdk : es1[k].d = es2[k].d := by
        have := congrArg (fun l => l[k]?) HE.out
        simp only [List.getElem?_map, List.getElem?_eq_getElem hlt, List.getElem?_eq_getElem hlt2, Option.map_some] at this
        exact Option.some.inj this
      obtain ⟨p1', q1', hea1, _⟩ := HX.out.ent k hlt
      obtain ⟨p2', q2', hea2, _⟩ := HY.out.ent k hlt2
      simp only at hea1 hea2
      subst hea1 hea2
      have HC := Lib.hid (show ∀ V : World, Below w.heap.size w V → Calls Try.prog 42 #[es1[k].agg, es2[k].agg] V fun e w' => e = .returned (.bool true) ∧ Below V.heap.size V w' from
        fun V hV => sameEntry_true es1[k] es2[k] V ((HX.out.ents _ (List.getElem_mem hlt)).kept hV) ((HY.out.ents _ (List.getElem_mem hlt2)).kept hV) hdk)
      have HF1 := Lib.hid (show ∀ V : World, Below w.heap.size w V → _ from fun V hV => (HX.out.kept hV).ent k hlt)
      have HF2 := Lib.hid (show ∀ V : World, Below w.heap.size w V → _ from fun V hV => (HY.out.kept hV).ent k hlt2)
      unfold Ent.agg at HC
      clear hdk
      generalize es1[k] = x1 at *
      generalize es2[k] = x2 at *
      go_wp2
      refine wp_region_inv 12 (fun V => Below w.heap.size w V ∧ V.heap[w.heap.size]? = some (.cells #[.int .i64 n1, .int .i64 k1, .int .i64 b1, .int .i64 d1, .int .i64 t1, .int .i64 w1, .int .u64 p1, .int .u64 r1, .int .u64 s1, .int .i64 o1, .slice (some ⟨p1', q1', none⟩) es1.length ec1] 45) ∧
        V.heap[w.heap.size + 1]? = some (.cells #[.int .i64 n1, .int .i64 k1, .int .i64 b1, .int .i64 d1, .int .i64 t1, .int .i64 w1, .int .u64 p1, .int .u64 r1, .int .u64 s1, .int .i64 o1, .slice (some ⟨p2', q2', none⟩) es1.length ec2] 45)) (by kernel_rfl) (by kernel_rfl) (fun _ => ⟨below_drawn HW.out.1 _, HW.out.2⟩) ?_
      simp only [List.take_succ_cons, List.take_zero]
      iterate 12
        apply wpInv_cons
        · rfl
        · intro Wx hw
          have z1 : Wx.cell? ⟨w.heap.size, 10, none⟩ = some (.slice (some ⟨p1', q1', none⟩) es1.length ec1) := by rw [cell_of_row _ _ _ _ _ _ hw.2.1]; rfl
          have z2 : Wx.cell? ⟨w.heap.size + 1, 10, none⟩ = some (.slice (some ⟨p2', q2', none⟩) es1.length ec2) := by rw [cell_of_row _ _ _ _ _ _ hw.2.2]; rfl
          obtain ⟨_, _, hq1, f0, f1, f2, f3, f4⟩ := HF1.out Wx hw.1
          cases hq1
          obtain ⟨_, _, hq2, g0, g1, g2, g3, g4⟩ := HF2.out Wx hw.1
          cases hq2
          go_simp
          first
            | exact ⟨hw, rfl⟩
            | (show Calls _ _ _ _ _; with_reducible exact (HC.out _ hw.1).mono (fun e w' ⟨he, hb⟩ => ⟨he, hw.1.trans (hb.mono hw.1.size), row_kept hw.2.1 hb, row_kept hw.2.2 hb⟩))
        simp only [Act.put, List.setIfInBounds_toArray, List.set_cons_zero, List.set_cons_succ]
      refine wpInv_nil fun V hw => ?_
      simp only [List.drop_succ_cons, List.drop_zero]
      have HV := Lib.hid hw
      clear hw
      go_wp2
      go_roundw
      case rel => exact ⟨k + 1, by omega, by go_num, HV.out⟩
      case measure => simp [intOf]; omega
    · have t0 : decide ((k : Int) < (es1.length : Int)) = false := by simp; omega
      go_wp2
      go_ret
      exact ⟨rfl, HW.out.1⟩
theorem gifts_true (a b : Option Addr) (c d : Nat) (l : List Gi) (w : World) (hl : l.length ≤ 5864062014634) (ha : Sl w a (gFlat l)) (hb : Sl w b (gFlat l)) :
    Calls Try.prog 39 #[.slice a l.length c, .slice b l.length d] w fun e w' => e = .returned (.bool true) ∧ Qt w w' := by
  have HA := Lib.hid ha
  have HB := Lib.hid hb
  have hb0 : ((l.length : Int) != (l.length : Int)) = false := by simp
  clear ha hb
  go_enter Try.func39, Try.ntmps39
  go_wp2
  go_loopw [5] (fun i wr => ∃ k : Nat, k ≤ l.length ∧ i = .int .i64 k ∧ Qt w wr) (fun i _ => l.length - (intOf i).toNat)
  case atStart => exact ⟨0, by omega, rfl, Qt.refl _⟩
  case round =>
    obtain ⟨k, hk, rfl, hq⟩ := hrel
    have HQ := Lib.hid hq
    clear hq
    by_cases hlt : k < l.length
    · have hbk : decide ((k : Int) < (l.length : Int)) = true := by simp; omega
      obtain ⟨b1, o1, rfl, x0, x1, x2⟩ := gift_at (HQ.out.sl HA.out) k hlt
      obtain ⟨b2, o2, rfl, y0, y1, y2⟩ := gift_at (HQ.out.sl HB.out) k hlt
      have i1 : (k : Int) < (l.length : Int) := by omega
      generalize l[k].to' = gt at *
      generalize l[k].item = gi at *
      generalize l[k].coins = gc at *
      have hne1 : (gt == gt) = true := by simp
      have hne2 : (gi == gi) = true := by simp
      have hne3 : (gc == gc) = true := by simp
      go_wp2
      go_quiet (fail)
      go_wp2
      go_roundw
      case rel => exact ⟨k + 1, by omega, by go_num, HQ.out.trans ⟨_, rfl⟩⟩
      case measure => simp [intOf]; omega
    · have hbk : decide ((k : Int) < (l.length : Int)) = false := by simp; omega
      go_wp2
      go_ret
      exact ⟨rfl, HQ.out⟩
end Go.Proofs.Ytpikmcapnmdmbaa
