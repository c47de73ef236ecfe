/-
  Layer 20: what goes back, by the document.
-/
import Derived.Test.YtiafhgcnjgpeaaaWe
import Derived.Test.YtiafhgcnjgpeaaaStep
import Derived.Deep.RegionHeld3
namespace Go.Proofs.Ytiafhgcnjgpeaaa
open Go.RowKit Go.K
set_option linter.unusedVariables false
set_option linter.unusedSimpArgs false

def backV (es : List Ent) : List Gi := es.flatMap fun e => gV e e.acc
theorem backV_succ (es : List Ent) (k : Nat) (h : k < es.length) : backV (es.take (k + 1)) = backV (es.take k) ++ gV es[k] es[k].acc := by
  unfold backV
  rw [List.take_succ_eq_append_getElem h, List.flatMap_append]
  simp
theorem backV_length_le (es : List Ent) : (backV es).length ≤ 2 * es.length := by
  induction es with
  | nil => simp [backV]
  | cons e l ih =>
    have : backV (e :: l) = gV e e.acc ++ backV l := rfl
    rw [this, List.length_append, List.length_cons]
    have := gV_length_le e e.acc
    omega
theorem backV_take_le (es : List Ent) (k : Nat) : (backV (es.take k)).length ≤ 2 * es.length := by
  have h1 := backV_length_le (es.take k)
  have h2 : (es.take k).length ≤ es.length := by rw [List.length_take]; omega
  omega
theorem below_of_drew {w w1 : World} (h : Below w.drew.heap.size w.drew w1) : Below w.heap.size w w1 := (Qt.below (w' := w.drew) ⟨_, rfl⟩ w.heap.size).trans h
theorem row_off {W W' : World} {n : Nat} {o : Obj} (h : W.heap[n]? = some o) {row : Option Nat} (hg : W.grownBy W' row) (hne : some n ≠ row) : W'.heap[n]? = some o :=
  (hg.block n (lt_row h) hne).trans h
set_option maxRecDepth 100000 in
set_option maxHeartbeats 4000000 in
theorem rback_any (c : Con) (w : World) (hc : ConOk w c) :
    Calls Try.prog 20 #[c.agg] w fun r w' => ∃ v, r = .returned v ∧ w'.ownsRow w.heap.size 56 3 v (backV c.es).length (gFlat (backV c.es)) ∧ Below w.heap.size w w' := by
  have HC := Lib.hid hc
  clear hc
  unfold Con.agg
  obtain ⟨n, k, b, d, t, wn, p, r, s, o, ea, ec, es⟩ := c
  have hm : es.length ≤ 2513169434843 := HC.out.mx
  simp only
  go_enter Try.func20, Try.ntmps20
  have HB := Lib.hid ((Below.refl w.heap.size w).alloc (Nat.le_refl _) (.cells #[.int .i64 n, .int .i64 k, .int .i64 b, .int .i64 d, .int .i64 t, .int .i64 wn, .int .u64 p, .int .u64 r, .int .u64 s, .int .i64 o, .slice ea es.length ec] 25))
  go_wp2
  go_loopw [3, 4] (fun v' i wr => ∃ (j : Nat) (v : Value), v = v' ∧ j ≤ es.length ∧ i = .int .i64 j ∧ Below w.heap.size w wr ∧ wr.heap[w.heap.size]? = some (.cells #[.int .i64 n, .int .i64 k, .int .i64 b, .int .i64 d, .int .i64 t, .int .i64 wn, .int .u64 p, .int .u64 r, .int .u64 s, .int .i64 o, .slice ea es.length ec] 25) ∧
      wr.ownsRow (w.heap.size + 1) 56 3 v (backV (es.take j)).length (gFlat (backV (es.take j)))) (fun _ i _ => es.length - (intOf i).toNat)
  case atStart => exact ⟨0, _, rfl, by omega, rfl, HB.out, alloc_at rfl, World.ownsRow_nil _ _ _ _⟩
  case round =>
    clear HB
    obtain ⟨j, v, hv, hj, rfl, hb, hr, ho⟩ := hrel
    subst hv
    have HB := Lib.hid hb
    have HR := Lib.hid hr
    have HO := Lib.hid ho
    have z1 : wr.cell? ⟨w.heap.size, 10, none⟩ = some (.slice ea es.length ec) := by rw [cell_of_row _ _ _ _ _ _ hr]; rfl
    clear hb hr ho
    by_cases hlt : j < es.length
    · have t0 : decide ((j : Int) < (es.length : Int)) = true := by simp; omega
      have i1 : (j : Int) < (es.length : Int) := by omega
      obtain ⟨ob, oo, hea, f0, f1, f2, f3, f4⟩ := (HC.out.kept HB.out).ent j hlt
      simp only at hea f0 f1 f2 f3 f4
      subst hea
      have HS := Lib.hid (backV_succ es j hlt)
      have HL := Lib.hid (backV_take_le es j)
      have HG := Lib.hid (gV_length_le es[j] es[j].acc)
      generalize es[j] = x at *
      obtain ⟨xa, xi, xc, xp, xw, xk, xs⟩ := x
      simp only at f0 f1 f2 f3 f4 HS HG
      have HK := Lib.hid (show ∀ V : World, _ from fun V => gives_any ⟨xa, xi, xc, xp, xw, xk, xs⟩ xa V)
      have B1 := Lib.hid (show (backV (es.take j)).length + (gV ⟨xa, xi, xc, xp, xw, xk, xs⟩ xa).length ≤ maxLen by have h1 := HL.out; have h2 := HG.out; unfold maxLen; omega)
      have B2 := Lib.hid (show ((backV (es.take j)).length + (gV ⟨xa, xi, xc, xp, xw, xk, xs⟩ xa).length) * 24 ≤ 140737488355328 by have h1 := HL.out; have h2 := HG.out; omega)
      have B3 := Lib.hid (show w.heap.size + 1 ≤ wr.heap.size from lt_row HR.out)
      have HNE := Lib.hid (show some ob ≠ v.ownBlock from fun h => by
        obtain ⟨_, _, he, g0, _⟩ := HC.out.ent j hlt
        cases he
        have h1 := World.block_lt_of_cell? w _ g0
        have h2 := (HO.out.lt _ h.symm).1
        simp only at h1; omega)
      have HNF := Lib.hid (show some w.heap.size ≠ v.ownBlock from fun h => by have h2 := (HO.out.lt _ h.symm).1; omega)
      unfold Ent.agg at HK
      simp only at HK
      go_wp2
      go_region_held3 (fun V => V.cell? ⟨w.heap.size, 10, none⟩ = some (.slice (some ⟨ob, oo, none⟩) es.length ec) ∧ V.cell? ⟨ob, oo + j * 5, none⟩ = some (.int .i64 xa) ∧ V.cell? ⟨ob, oo + j * 5 + 1, none⟩ = some (.int .i64 xi) ∧ V.cell? ⟨ob, oo + j * 5 + 2, none⟩ = some (.int .u64 xc) ∧
        V.cell? ⟨ob, oo + j * 5 + 3, none⟩ = some (.int .u64 xp) ∧ V.cell? ⟨ob, oo + j * 5 + 4, none⟩ = some (.slice xw xs.length xk)) (go_keep)
        ((first
          | (go_at_call 43; refine (HK.out _).mono ?_; rintro e w1 ⟨vg, rfl, hog, hbg⟩; obtain ⟨adg, capg, rfl, hn0, hsl, hle⟩ := owns_slice hog; have hbw : Below wr.heap.size wr w1 := below_of_drew hbg; have ho1 := owns_below (B := 0) HO.out hbw
             have q0 := below_cell hbw f0; have q1 := below_cell hbw f1; have q2 := below_cell hbw f2; have q3 := below_cell hbw f3; have q4 := below_cell hbw f4; have q5 := below_cell hbw z1)
          | (refine step_append_sl (by rfl) _ _ 37 (by rfl) (w.heap.size + 1) 56 (.agg #[.int .i64 0, .int .i64 0, .int .u64 0]) 3 24 Try.underlying37 info56' (by rfl) (by decide) v _ _ (by rfl) ho1 adg _ capg _ (by rfl) hn0 (gFlat_length _) hsl (oneCell_gFlat _) B1.out B2.out (Nat.le_trans B3.out hbw.size) ?_; intro v2 w2 ho2 hg2
             have p0 := hg2.cell q0 HNE.out; have p1 := hg2.cell q1 HNE.out; have p2 := hg2.cell q2 HNE.out; have p3 := hg2.cell q3 HNE.out; have p4 := hg2.cell q4 HNE.out; have p5 := hg2.cell q5 HNF.out)))
      have HO2 := Lib.hid ho2
      have HR2 := Lib.hid (row_off (row_kept HR.out hbw) hg2 (fun h => by have := (ho1.lt _ h.symm).1; omega))
      have HB2 := Lib.hid ((HB.out.trans (hbw.mono HB.out.size)).grown hg2 (HB.out.trans (hbw.mono HB.out.size)).size (fun k hk => by have := (ho1.lt k hk).1; omega) : Below w.heap.size w w2)
      clear ho2 hg2
      go_wp2
      go_roundw
      case rel => exact ⟨j + 1, _, rfl, by omega, by go_num, HB2.out, HR2.out, by rw [HS.out, gFlat_append, List.length_append]; exact HO2.out⟩
      case measure => simp [intOf]; omega
    · have t0 : decide ((j : Int) < (es.length : Int)) = false := by simp; omega
      have HE := Lib.hid (show es.take j = es from List.take_of_length_le (by omega))
      go_wp2
      go_ret
      have hh := HO.out
      rw [HE.out] at hh
      exact ⟨_, rfl, owns_base hh (by omega), HB.out⟩
theorem rend_any (c : Con) (w : World) (hc : ConOk w c) :
    Calls Try.prog 23 #[c.agg] w fun r w' => ∃ v, r = .returned v ∧ w'.ownsRow w.heap.size 56 3 v (backV c.es).length (gFlat (backV c.es)) ∧ Below w.heap.size w w' := by
  have HK := Lib.hid (fun V (h : Below w.heap.size w V) => rback_any c V (hc.kept h))
  clear hc
  obtain ⟨n, k, b, d, t, wn, p, r, s, o, ea, ec, es⟩ := c
  unfold Con.agg at HK ⊢
  simp only at HK ⊢
  go_enter Try.func23, Try.ntmps23
  have HB := Lib.hid ((Below.refl w.heap.size w).alloc (Nat.le_refl _) (.cells #[.int .i64 n, .int .i64 k, .int .i64 b, .int .i64 d, .int .i64 t, .int .i64 wn, .int .u64 p, .int .u64 r, .int .u64 s, .int .i64 o, .slice ea es.length ec] 25))
  go_wp2_with fail
  refine (HK.out _ HB.out).mono ?_
  rintro e w1 ⟨v, rfl, ho, hb⟩
  have HB3 := Lib.hid (HB.out.trans (hb.mono (by simp)))
  have HO := Lib.hid (owns_base ho HB.out.size)
  clear hb ho
  go_wp2
  go_ret
  exact ⟨_, rfl, HO.out, HB3.out⟩
theorem acc_any (x : Ent) (w : World) : Calls Try.prog 42 #[x.agg] w fun r w' => r = .returned (.int .i64 x.acc) ∧ Below w.heap.size w w' := by
  obtain ⟨xa, xi, xc, xp, xw, xk, xs⟩ := x
  unfold Ent.agg
  go_enter Try.func42, Try.ntmps42
  go_wp2
  go_ret
  exact ⟨rfl, (Below.refl _ _).alloc (Nat.le_refl _) _⟩
end Go.Proofs.Ytiafhgcnjgpeaaa
