/-
  Layer 22: is an account among the entries; the document's answer to an entry that joins.
-/
import Derived.Test.YtpikmcapnmdmbaaRb
namespace Go.Proofs.Ytpikmcapnmdmbaa
open Go.RowKit Go.K
set_option linter.unusedVariables false
set_option linter.unusedSimpArgs false
def hasA (es : List Ent) (a : Int) : Bool := es.any fun x => decide (x.acc = a)
theorem hasA_yes {es : List Ent} {a : Int} (k : Nat) (h : k < es.length) (e : es[k].acc = a) : hasA es a = true := by
  unfold hasA
  rw [List.any_eq_true]
  exact ⟨_, List.getElem_mem h, by simpa using e⟩
theorem hasA_no {es : List Ent} {a : Int} (h : ∀ i (h : i < es.length), es[i].acc ≠ a) : hasA es a = false := by
  unfold hasA
  rw [List.any_eq_false]
  intro x hx
  obtain ⟨i, hi, rfl⟩ := List.getElem_of_mem hx
  simpa using h i hi
def joinV (c : Con) (e : Ent) : Int :=
  if e.acc = c.by' then 234 else if c.kind = 4 ∧ entP e = true then (if hasA c.es e.acc = true then 236 else if 16 ≤ c.es.length then 232 else 0) else 200
theorem joined_any (x : Ent) (a : Int) (pb : Nat) (w : World) (hp : w.cell? ⟨pb, 0, none⟩ = some (.int .i64 a)) :
    Calls Try.prog 60 #[x.agg, .pointer (some ⟨pb, 0, none⟩)] w fun r w' => r = .returned (.bool (x.acc == a)) ∧ Below w.heap.size w w' := by
  obtain ⟨a1, i1, c1, p1, wa1, wc1, ws1⟩ := x
  unfold Ent.agg
  have HB := Lib.hid ((Below.refl w.heap.size w).alloc (Nat.le_refl _) (.cells #[.int .i64 a1, .int .i64 i1, .int .u64 c1, .int .u64 p1, .slice wa1 ws1.length wc1] 48))
  have hp' := below_cell HB.out hp
  go_enter Try.func60, Try.ntmps60
  go_wp2
  go_ret
  exact ⟨rfl, HB.out⟩
theorem indexF_any (ea : Option Addr) (ec : Nat) (es : List Ent) (a : Int) (pb : Nat) (w : World) (hm : es.length ≤ 17592186043904) (hs : Sl w ea (eFlat es)) (hp : w.cell? ⟨pb, 0, none⟩ = some (.int .i64 a)) :
    Calls Try.prog 68 #[.slice ea es.length ec, .func (.func 60) #[] #[.pointer (some ⟨pb, 0, none⟩)]] w fun r w' => ∃ z : Int, r = .returned (.int .i64 z) ∧ decide (z ≥ 0) = hasA es a ∧ Below w.heap.size w w' := by
  have HS := Lib.hid hs
  have HP := Lib.hid hp
  clear hs hp
  go_enter Try.func68, Try.ntmps68
  go_wp2
  go_loopw [5, 8] (fun s5 i wr => ∃ k : Nat, k ≤ es.length ∧ i = .int .i64 k ∧ (∀ i (h : i < es.length), i < k → es[i].acc ≠ a) ∧ Below w.heap.size w wr) (fun _ i _ => es.length - (intOf i).toNat)
  case atStart => exact ⟨0, by omega, rfl, fun i h h2 => by omega, Below.refl _ _⟩
  case round =>
    obtain ⟨k, hk, rfl, hno, hb⟩ := hrel
    have HN := Lib.hid hno
    have HB := Lib.hid hb
    clear hno hb
    by_cases hlt : k < es.length
    · have t0 : decide ((k : Int) < (es.length : Int)) = true := by simp; omega
      have i1 : (k : Int) < (es.length : Int) := by omega
      obtain ⟨ob, oo, hea, f0, f1, f2, f3, f4⟩ := ent_at (HS.out.kept HB.out) k hlt
      subst hea
      have HY := Lib.hid (fun e => hasA_yes (es := es) (a := a) k hlt e)
      have HX := Lib.hid (show es[k].acc ≠ a → ∀ i (h : i < es.length), i < k + 1 → es[i].acc ≠ a from fun hne i h h2 => by
        by_cases e : i = k
        · subst e; exact hne
        · exact HN.out i h (by omega))
      have K60 := Lib.hid (fun (V : World) (hV : V.cell? ⟨pb, 0, none⟩ = some (.int .i64 a)) => joined_any es[k] a pb V hV)
      have hp' := below_cell HB.out HP.out
      have HP2 := Lib.hid hp'
      unfold Ent.agg at K60
      clear HN hp'
      generalize es[k] = x at *
      by_cases hx : x.acc = a
      · have u : (x.acc == a) = true := by simpa using hx
        have HQ := Lib.hid (HY.out hx)
        rw [u] at K60
        clear hx u
        go_wp2_with fail
        refine (K60.out _ HP2.out).mono ?_
        rintro r w1 ⟨rfl, hb⟩
        have HB2 := Lib.hid (HB.out.trans (hb.mono HB.out.size))
        clear hb
        go_wp2
        go_ret
        exact ⟨_, rfl, by rw [HQ.out]; exact decide_eq_true (by omega), HB2.out⟩
      · have u : (x.acc == a) = false := by simpa using hx
        have HQ := Lib.hid (HX.out hx)
        rw [u] at K60
        clear hx u
        go_wp2_with fail
        refine (K60.out _ HP2.out).mono ?_
        rintro r w1 ⟨rfl, hb⟩
        have HB2 := Lib.hid (HB.out.trans (hb.mono HB.out.size))
        clear hb
        go_wp2
        go_roundw
        case rel => exact ⟨k + 1, by omega, by go_num, HQ.out, HB2.out⟩
        case measure => simp [intOf]; omega
    · have t0 : decide ((k : Int) < (es.length : Int)) = false := by simp; omega
      have HQ := Lib.hid (hasA_no (es := es) (a := a) (fun i h => HN.out i h (by omega)))
      go_wp2
      go_ret
      exact ⟨_, rfl, by rw [HQ.out]; decide, HB.out⟩
theorem contains_any (ea : Option Addr) (ec : Nat) (es : List Ent) (a : Int) (pb : Nat) (w : World) (hm : es.length ≤ 17592186043904) (hs : Sl w ea (eFlat es)) (hp : w.cell? ⟨pb, 0, none⟩ = some (.int .i64 a)) :
    Calls Try.prog 59 #[.slice ea es.length ec, .func (.func 60) #[] #[.pointer (some ⟨pb, 0, none⟩)]] w fun r w' => r = .returned (.bool (hasA es a)) ∧ Below w.heap.size w w' := by
  have HI := Lib.hid (indexF_any ea ec es a pb w hm hs hp)
  clear hs hp
  go_enter Try.func59, Try.ntmps59
  go_wp2_with fail
  refine HI.out.mono ?_
  rintro r w1 ⟨z, rfl, hz, hb⟩
  have HZ := Lib.hid hz
  have HB := Lib.hid hb
  clear hz hb HI
  go_wp2
  go_ret
  exact ⟨by rw [← HZ.out]; rfl, HB.out⟩
set_option maxRecDepth 100000 in
set_option maxHeartbeats 2000000 in
theorem rjoin_any (c : Con) (e : Ent) (w : World) (hc : ConOk w c) : Calls Try.prog 37 #[c.agg, e.agg] w fun r w' => r = .returned (.int .i64 (joinV c e)) ∧ Below w.heap.size w w' := by
  have HC := Lib.hid hc
  have hm : c.es.length ≤ 2513169434843 := hc.mx
  clear hc
  unfold Con.agg
  obtain ⟨n, k, b, d, t, wn, p, r, s, o, ea, ec, es⟩ := c
  obtain ⟨xa, xi, xc, xp, xw, xk, xs⟩ := e
  have HK := Lib.hid (fun (V : World) => rent_any ⟨xa, xi, xc, xp, xw, xk, xs⟩ V)
  unfold Ent.agg at *
  simp only at HK ⊢
  simp only at hm
  have HW := Lib.hid (show ∃ W, W = (w.alloc (.cells #[.int .i64 n, .int .i64 k, .int .i64 b, .int .i64 d, .int .i64 t, .int .i64 wn, .int .u64 p, .int .u64 r, .int .u64 s, .int .i64 o, .slice ea es.length ec] 45)).alloc (.cells #[.int .i64 xa, .int .i64 xi, .int .u64 xc, .int .u64 xp, .slice xw xs.length xk] 48) from ⟨_, rfl⟩)
  obtain ⟨W, hW⟩ := HW.out
  have R1 := Lib.hid (show W.heap[w.heap.size]? = some (.cells #[.int .i64 n, .int .i64 k, .int .i64 b, .int .i64 d, .int .i64 t, .int .i64 wn, .int .u64 p, .int .u64 r, .int .u64 s, .int .i64 o, .slice ea es.length ec] 45) by rw [hW]; exact alloc_old (alloc_at rfl))
  have R2 := Lib.hid (show W.heap[w.heap.size + 1]? = some (.cells #[.int .i64 xa, .int .i64 xi, .int .u64 xc, .int .u64 xp, .slice xw xs.length xk] 48) by rw [hW]; exact alloc_at (by simp))
  have HB := Lib.hid (show Below w.heap.size w W by rw [hW]; exact ((Below.refl _ _).alloc (Nat.le_refl _) _).alloc (by simp) _)
  go_enter Try.func37, Try.ntmps37
  by_cases h : xa = b
  case pos =>
    have HT := Lib.hid (show joinV ⟨n, k, b, d, t, wn, p, r, s, o, ea, ec, es⟩ ⟨xa, xi, xc, xp, xw, xk, xs⟩ = 234 by unfold joinV; rw [if_pos h])
    have c1 : (xa == b) = true := by simpa using h
    clear h hW
    go_wp2
    go_ret
    exact ⟨by rw [HT.out]; try rfl, ((Below.refl _ _).alloc (Nat.le_refl _) _).alloc (by simp) _⟩
  have c1 : (xa == b) = false := by simpa using h
  have HJ := Lib.hid (show joinV ⟨n, k, b, d, t, wn, p, r, s, o, ea, ec, es⟩ ⟨xa, xi, xc, xp, xw, xk, xs⟩ = if k = 4 ∧ entP ⟨xa, xi, xc, xp, xw, xk, xs⟩ = true then (if hasA es xa = true then 236 else if 16 ≤ es.length then 232 else 0) else 200 by unfold joinV; rw [if_neg h])
  clear h
  have HWE := Lib.hid hW
  clear hW
  go_wp2_with fail
  rw [← HWE.out]
  refine (HK.out _).mono ?_
  rintro r0 w1 ⟨rfl, hb⟩
  have S1 := Lib.hid (row_kept R1.out hb)
  have S2 := Lib.hid (row_kept R2.out hb)
  have HB1 := Lib.hid (HB.out.trans (hb.mono HB.out.size))
  have z1 : w1.cell? ⟨w.heap.size, 1, none⟩ = some (.int .i64 k) := by rw [cell_of_row _ _ _ _ _ _ S1.out]; rfl
  clear hb HB R1 R2
  generalize hep : entP ⟨xa, xi, xc, xp, xw, xk, xs⟩ = ep at *
  clear hep HK
  by_cases h : k = 4 ∧ ep = true
  case neg =>
    have HT := Lib.hid (HJ.out.trans (if_neg h))
    by_cases hk : k = 4
    · have c2 : (k != 4) = false := by simpa using hk
      have c3 : ep = false := by
        cases ep
        · rfl
        · exact absurd ⟨hk, rfl⟩ h
      subst c3
      clear h hk
      go_wp2
      go_ret
      exact ⟨by rw [HT.out]; try rfl, HB1.out⟩
    · have c2 : (k != 4) = true := by simpa using hk
      clear h hk
      go_wp2
      go_ret
      exact ⟨by rw [HT.out]; try rfl, HB1.out⟩
  have HJ2 := Lib.hid (HJ.out.trans (if_pos h))
  obtain ⟨h1, rfl⟩ := h
  have c2 : (k != 4) = false := by simpa using h1
  clear h1 HJ HWE
  go_wp2
  clear z1
  go_loopw [6] (fun i wr => ∃ k : Nat, k ≤ es.length ∧ i = .int .i64 k ∧ (∀ i (h : i < es.length), i < k → es[i].acc ≠ xa) ∧ Below w1.heap.size w1 wr) (fun i _ => es.length - (intOf i).toNat)
  case atStart => exact ⟨0, by omega, rfl, fun i h h2 => by omega, Below.refl _ _⟩
  case round =>
    obtain ⟨q, hk, rfl, hno, hb⟩ := hrel
    have HN := Lib.hid hno
    have HB := Lib.hid hb
    have z10 : wr.cell? ⟨w.heap.size, 10, none⟩ = some (.slice ea es.length ec) := by rw [cell_of_row _ _ _ _ _ _ (row_kept S1.out hb)]; rfl
    have y0 : wr.cell? ⟨w.heap.size + 1, 0, none⟩ = some (.int .i64 xa) := by rw [cell_of_row _ _ _ _ _ _ (row_kept S2.out hb)]; rfl
    clear hno hb
    by_cases hlt : q < es.length
    · have t0 : decide ((q : Int) < (es.length : Int)) = true := by simp; omega
      have i1 : (q : Int) < (es.length : Int) := by omega
      obtain ⟨ob, oo, hea, f0, f1, f2, f3, f4⟩ := ent_at ((HC.out.kept HB1.out).sl.kept HB.out) q hlt
      simp only at hea f0 f1 f2 f3 f4
      rw [hea] at z10
      have HY := Lib.hid (fun e => hasA_yes (es := es) (a := xa) q hlt e)
      have HX := Lib.hid (show es[q].acc ≠ xa → ∀ i (h : i < es.length), i < q + 1 → es[i].acc ≠ xa from fun hne i h h2 => by
        by_cases e : i = q
        · subst e; exact hne
        · exact HN.out i h (by omega))
      clear HN hea f1 f2 f3 f4
      generalize es[q] = x at *
      by_cases hx : x.acc = xa
      · have u : (x.acc == xa) = true := by simpa using hx
        have HT := Lib.hid (HJ2.out.trans (if_pos (HY.out hx)))
        clear hx
        go_wp2
        go_quiet (fail)
        go_wp2
        go_ret
        exact ⟨by rw [HT.out]; try rfl, HB1.out.trans ((HB.out.trans ((Qt.drewN _ _).below _)).mono HB1.out.size)⟩
      · have u : (x.acc == xa) = false := by simpa using hx
        have HQ := Lib.hid (HX.out hx)
        clear hx
        go_wp2
        go_quiet (fail)
        go_wp2
        go_roundw
        case rel => exact ⟨q + 1, by omega, by go_num, HQ.out, HB.out.trans ((Qt.drewN _ _).below _)⟩
        case measure => simp [intOf]; omega
    · have t0 : decide ((q : Int) < (es.length : Int)) = false := by simp; omega
      have HQ := Lib.hid (HJ2.out.trans (if_neg (by rw [hasA_no (es := es) (a := xa) (fun i h => HN.out i h (by omega))]; decide)))
      by_cases hl : 16 ≤ es.length
      · have t1 : decide ((es.length : Int) ≥ 16) = true := decide_eq_true (by omega)
        have HT := Lib.hid (HQ.out.trans (if_pos hl))
        clear hl
        go_wp2
        go_ret
        exact ⟨by rw [HT.out]; try rfl, HB1.out.trans (HB.out.mono HB1.out.size)⟩
      · have t1 : decide ((es.length : Int) ≥ 16) = false := decide_eq_false (by omega)
        have HT := Lib.hid (HQ.out.trans (if_neg hl))
        clear hl
        go_wp2
        go_ret
        exact ⟨by rw [HT.out]; try rfl, HB1.out.trans (HB.out.mono HB1.out.size)⟩
end Go.Proofs.Ytpikmcapnmdmbaa
