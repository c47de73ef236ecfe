/-
  Layer 19: is an account among the entries; the document's answer to an entry that joins.
-/
import Derived.Test.YtbggibdldadpiaaYe
namespace Go.Proofs.Ytbggibdldadpiaa
open Go.RowKit Go.K
set_option linter.unusedVariables false
set_option linter.unusedSimpArgs false
def hasA (es : List Ent) (a : Int) : Bool := es.any fun x => decide (x.acc = a)
theorem hasA_yes {es : List Ent} {a : Int} (k : Nat) (h : k < es.length) (e : es[k].acc = a) : hasA es a = true := by
  unfold hasA
  rw [List.any_eq_true]
  exact ⟨_, List.getElem_mem h, by simpa using e⟩
theorem hasA_no {es : List Ent} {a : Int} (h : ∀ i (h : i < es.length), es[i].acc ≠ a) : hasA es a = false := by
  unfold hasA
  rw [List.any_eq_false]
  intro x hx
  obtain ⟨i, hi, rfl⟩ := List.getElem_of_mem hx
  simpa using h i hi
theorem joined_any (x : Ent) (a : Int) (pb : Nat) (w : World) (hp : w.cell? ⟨pb, 0, none⟩ = some (.int .i64 a)) :
    Calls Try.prog 50 #[x.agg, .pointer (some ⟨pb, 0, none⟩)] w fun r w' => r = .returned (.bool (x.acc == a)) ∧ Below w.heap.size w w' := by
  obtain ⟨a1, i1, c1, p1, wa1, wc1, ws1⟩ := x
  unfold Ent.agg
  have HB := Lib.hid ((Below.refl w.heap.size w).alloc (Nat.le_refl _) (.cells #[.int .i64 a1, .int .i64 i1, .int .u64 c1, .int .u64 p1, .slice wa1 ws1.length wc1] 53))
  have hp' := below_cell HB.out hp
  go_enter Try.func50, Try.ntmps50
  go_wp2
  go_ret
  exact ⟨rfl, HB.out⟩
theorem indexF_any (ea : Option Addr) (ec : Nat) (es : List Ent) (a : Int) (pb : Nat) (w : World) (hm : es.length ≤ 17592186043904) (hs : Sl w ea (eFlat es)) (hp : w.cell? ⟨pb, 0, none⟩ = some (.int .i64 a)) :
    Calls Try.prog 61 #[.slice ea es.length ec, .func (.func 50) #[] #[.pointer (some ⟨pb, 0, none⟩)]] w fun r w' => ∃ z : Int, r = .returned (.int .i64 z) ∧ decide (z ≥ 0) = hasA es a ∧ Below w.heap.size w w' := by
  have HS := Lib.hid hs
  have HP := Lib.hid hp
  clear hs hp
  go_enter Try.func61, Try.ntmps61
  go_wp2
  go_loopw [5, 8] (fun s5 i wr => ∃ k : Nat, k ≤ es.length ∧ i = .int .i64 k ∧ (∀ i (h : i < es.length), i < k → es[i].acc ≠ a) ∧ Below w.heap.size w wr) (fun _ i _ => es.length - (intOf i).toNat)
  case atStart => exact ⟨0, by omega, rfl, fun i h h2 => by omega, Below.refl _ _⟩
  case round =>
    obtain ⟨k, hk, rfl, hno, hb⟩ := hrel
    have HN := Lib.hid hno
    have HB := Lib.hid hb
    clear hno hb
    by_cases hlt : k < es.length
    · have t0 : decide ((k : Int) < (es.length : Int)) = true := by simp; omega
      have i1 : (k : Int) < (es.length : Int) := by omega
      obtain ⟨ob, oo, hea, f0, f1, f2, f3, f4⟩ := ent_at (HS.out.kept HB.out) k hlt
      subst hea
      have HY := Lib.hid (fun e => hasA_yes (es := es) (a := a) k hlt e)
      have HX := Lib.hid (show es[k].acc ≠ a → ∀ i (h : i < es.length), i < k + 1 → es[i].acc ≠ a from fun hne i h h2 => by
        by_cases e : i = k
        · subst e; exact hne
        · exact HN.out i h (by omega))
      have K60 := Lib.hid (fun (V : World) (hV : V.cell? ⟨pb, 0, none⟩ = some (.int .i64 a)) => joined_any es[k] a pb V hV)
      have hp' := below_cell HB.out HP.out
      have HP2 := Lib.hid hp'
      unfold Ent.agg at K60
      clear HN hp'
      generalize es[k] = x at *
      by_cases hx : x.acc = a
      · have u : (x.acc == a) = true := by simpa using hx
        have HQ := Lib.hid (HY.out hx)
        rw [u] at K60
        clear hx u
        go_wp2_with fail
        refine (K60.out _ HP2.out).mono ?_
        rintro r w1 ⟨rfl, hb⟩
        have HB2 := Lib.hid (HB.out.trans (hb.mono HB.out.size))
        clear hb
        go_wp2
        go_ret
        exact ⟨_, rfl, by rw [HQ.out]; exact decide_eq_true (by omega), HB2.out⟩
      · have u : (x.acc == a) = false := by simpa using hx
        have HQ := Lib.hid (HX.out hx)
        rw [u] at K60
        clear hx u
        go_wp2_with fail
        refine (K60.out _ HP2.out).mono ?_
        rintro r w1 ⟨rfl, hb⟩
        have HB2 := Lib.hid (HB.out.trans (hb.mono HB.out.size))
        clear hb
        go_wp2
        go_roundw
        case rel => exact ⟨k + 1, by omega, by go_num, HQ.out, HB2.out⟩
        case measure => simp [intOf]; omega
    · have t0 : decide ((k : Int) < (es.length : Int)) = false := by simp; omega
      have HQ := Lib.hid (hasA_no (es := es) (a := a) (fun i h => HN.out i h (by omega)))
      go_wp2
      go_ret
      exact ⟨_, rfl, by rw [HQ.out]; decide, HB.out⟩
theorem contains_any (ea : Option Addr) (ec : Nat) (es : List Ent) (a : Int) (pb : Nat) (w : World) (hm : es.length ≤ 17592186043904) (hs : Sl w ea (eFlat es)) (hp : w.cell? ⟨pb, 0, none⟩ = some (.int .i64 a)) :
    Calls Try.prog 49 #[.slice ea es.length ec, .func (.func 50) #[] #[.pointer (some ⟨pb, 0, none⟩)]] w fun r w' => r = .returned (.bool (hasA es a)) ∧ Below w.heap.size w w' := by
  have HI := Lib.hid (indexF_any ea ec es a pb w hm hs hp)
  clear hs hp
  go_enter Try.func49, Try.ntmps49
  go_wp2_with fail
  refine HI.out.mono ?_
  rintro r w1 ⟨z, rfl, hz, hb⟩
  have HZ := Lib.hid hz
  have HB := Lib.hid hb
  clear hz hb HI
  go_wp2
  go_ret
  exact ⟨by rw [← HZ.out]; rfl, HB.out⟩
end Go.Proofs.Ytbggibdldadpiaa
