/-
  Layer 22: how much of a contract is looked at.
-/
import Derived.Test.YtpikmcapnmdmbaaVb
namespace Go.Proofs.Ytpikmcapnmdmbaa
open Go.RowKit Go.K
set_option linter.unusedVariables false
set_option linter.unusedSimpArgs false
def totalE (es : List Ent) : Nat := (es.map fun x => x.ws.length).sum
theorem totalE_le {es : List Ent} : ∀ x ∈ es, x.ws.length ≤ totalE es := by
  intro x hx
  unfold totalE
  induction es with
  | nil => cases hx
  | cons a ws ih =>
    rw [List.map_cons, List.sum_cons]
    rcases List.mem_cons.1 hx with e | e
    · subst e; omega
    · have := ih e; omega
set_option maxRecDepth 100000 in
set_option maxHeartbeats 1000000 in
theorem lot_any (c : Con) (e : Ent) (w : World) (hc : ConOk w c) (he : EntOk w e) :
    Calls Try.prog 26 #[c.agg, e.agg] w fun r w' => (∃ b : Bool, r = .returned (.bool b) ∧ (b = false → c.es.length + e.ws.length + totalE c.es ≤ 3000)) ∧ Below w.heap.size w w' := by
  have HC := Lib.hid hc
  have hm := hc.mx
  have hm2 := he.mx
  clear hc he
  obtain ⟨n, k, b, d, t, wn, p, r, s, o, ea, ec, es⟩ := c
  obtain ⟨xa, xi, xc, xp, xw, xk, xs⟩ := e
  unfold Con.agg Ent.agg
  simp only at hm hm2 ⊢
  go_enter Try.func26, Try.ntmps26
  go_wp2
  refine wp_world (fun W => Below w.heap.size w W ∧ W.cell? ⟨w.heap.size, 10, none⟩ = some (.slice ea es.length ec))
    ⟨((Below.refl _ _).alloc (Nat.le_refl _) _).alloc (by simp) _, by rw [cell_of_row _ _ _ _ _ _ (alloc_old (alloc_at rfl))]; rfl⟩ ?_
  intro W ⟨hb, z0⟩
  have HB := Lib.hid hb
  clear hb
  go_loopw [5, 6] (fun n i wr => ∃ (k m : Nat), k ≤ es.length ∧ i = .int .i64 k ∧ n = .int .i64 m ∧ m = es.length + xs.length + totalE (es.take k) ∧ m ≤ 52776558131712 ∧ W = wr) (fun _ i _ => es.length - (intOf i).toNat)
  case atStart => exact ⟨0, es.length + xs.length, by omega, rfl, by simp, by simp [totalE], by omega, rfl⟩
  case round =>
    obtain ⟨k, m, hk, rfl, rfl, hm, hmb, rfl⟩ := hrel
    have HM := Lib.hid hm
    clear hm
    by_cases hlt : k < es.length
    · have t0 : decide ((k : Int) < (es.length : Int)) = true := by simp; omega
      by_cases h3 : m ≤ 3000
      · have t1 : decide ((m : Int) ≤ 3000) = true := by simp; omega
        have i0 : (k : Int) < (es.length : Int) := by omega
        obtain ⟨ob, oo, hea, f0, f1, f2, f3, f4⟩ := (HC.out.kept HB.out).ent k hlt
        simp only at hea f0 f1 f2 f3 f4
        subst hea
        have hx := (HC.out.ents _ (List.getElem_mem hlt)).mx
        have HT := Lib.hid (show totalE (es.take (k + 1)) = totalE (es.take k) + es[k].ws.length by
          unfold totalE
          rw [List.take_succ_eq_append_getElem hlt, List.map_append, List.sum_append]
          simp only [List.map_cons, List.map_nil, List.sum_cons, List.sum_nil, Nat.add_zero])
        generalize es[k] = x at *
        obtain ⟨ya, yi, yc, yp, yw, yk, ys⟩ := x
        simp only at f0 f1 f2 f3 f4 hx HT
        go_wp2
        go_roundw
        case rel => exact ⟨k + 1, m + ys.length, by omega, by go_num, by simp, by rw [HT.out, HM.out]; omega, by omega, by trivial⟩
        case measure => simp [intOf]; omega
      · have t1 : decide ((m : Int) ≤ 3000) = false := by simp; omega
        have t2 : decide ((m : Int) > 3000) = true := decide_eq_true (by omega)
        go_wp2
        go_ret
        exact ⟨⟨true, rfl, fun h => by cases h⟩, HB.out⟩
    · have t0 : decide ((k : Int) < (es.length : Int)) = false := by simp; omega
      have HT := Lib.hid (show m = es.length + xs.length + totalE es by rw [HM.out, List.take_of_length_le (by omega)])
      by_cases h3 : m ≤ 3000
      · have t2 : decide ((m : Int) > 3000) = false := decide_eq_false (by omega)
        go_wp2
        go_ret
        exact ⟨⟨false, rfl, fun _ => by rw [← HT.out]; exact h3⟩, HB.out⟩
      · have t2 : decide ((m : Int) > 3000) = true := decide_eq_true (by omega)
        go_wp2
        go_ret
        exact ⟨⟨true, rfl, fun h => by cases h⟩, HB.out⟩
end Go.Proofs.Ytpikmcapnmdmbaa
