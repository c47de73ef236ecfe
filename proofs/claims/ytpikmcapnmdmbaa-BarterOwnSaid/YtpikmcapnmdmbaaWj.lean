/-
  Layer 22: the document's order of an entry, places in it, Better.
-/
import Derived.Test.YtpikmcapnmdmbaaWd
import Derived.Test.YtpikmcapnmdmbaaWg
import Derived.Test.YtpikmcapnmdmbaaWf
namespace Go.Proofs.Ytpikmcapnmdmbaa
open Go.RowKit Go.K Go.Maps
set_option linter.unusedVariables false
set_option linter.unusedSimpArgs false
def ordAcc (is : List Int) (i : Nat) : List Int → List Nat → List Nat
  | [], acc => acc
  | x :: xs, acc => match is.findIdx? (· == x) with
    | none => ordAcc is i xs acc
    | some k => if k = i then acc else if k ∈ acc then ordAcc is i xs acc else ordAcc is i xs (acc ++ [k])
/-- The entries whose items entry i would rather have than its own, and itself behind them. -/
def ord (is : List Int) (l : List Int) (i : Nat) : List Nat := ordAcc is i l [] ++ [i]
theorem ownV_none {is : List Int} {x : Int} (h : is.findIdx? (· == x) = none) : ownV is x = -1 := by unfold ownV; rw [h]
theorem ownV_some {is : List Int} {x : Int} {k : Nat} (h : is.findIdx? (· == x) = some k) : ownV is x = (k : Int) := by unfold ownV; rw [h]
theorem find_lt {is : List Int} {x : Int} {k : Nat} (h : is.findIdx? (· == x) = some k) : k < is.length := by
  obtain ⟨h1, _⟩ := List.findIdx?_eq_some_iff_getElem.1 h
  exact h1
def memB (acc : List Nat) : Nat → Bool := fun j => decide (j ∈ acc)
theorem memB_snoc (acc : List Nat) (k : Nat) : memB (acc ++ [k]) = upd (memB acc) k true := by
  funext j
  unfold memB upd
  by_cases e : j = k
  · subst e; simp
  · simp [e]
set_option maxRecDepth 100000 in
set_option maxHeartbeats 2000000 in
theorem order_any (ia : Option Addr) (ic : Nat) (is : List Int) (wa : Option Addr) (wc : Nat) (ws : List Wl) (i : Nat) (w : World) (hl : is.length ≤ 1000000) (hs : Sl w ia (vI is)) (hws : WsOk w wa ws) (hi : i < ws.length) (hil : i < is.length) (hwl : ws.length ≤ 1000000) :
    Calls Try.prog 52 #[.slice ia is.length ic, .slice wa ws.length wc, .int .i64 i] w fun r w' => ∃ ad cap, r = .returned (.slice ad (ord is ws[i].l i).length cap) ∧ w'.ownsRow w.heap.size 3 1 (.slice ad (ord is ws[i].l i).length cap) (ord is ws[i].l i).length (vN (ord is ws[i].l i)) ∧ Below w.heap.size w w' := by
  have HS := Lib.hid hs
  have HX := Lib.hid (hws.each _ (List.getElem_mem hi))
  obtain ⟨wb, wo, rfl, z0⟩ := hws.at' i hi
  have HZ := Lib.hid z0
  generalize ws[i] = xx at HX HZ z0
  obtain ⟨xa, xc, xl⟩ := xx
  simp only at HZ z0 ⊢
  have hmx : xl.length ≤ 17592186043904 := HX.out.mx
  have HSLX := Lib.hid HX.out.sl
  have i0 : (i : Int) < (ws.length : Int) := by omega
  have hm69 := make69 is.length (by omega)
  clear hs hws hi HX z0
  go_enter Try.func52, Try.ntmps52
  go_wp2
  clear hm69
  go_loopw [7, 9, 10] (fun v k x10 wr => ∃ (q : Nat) (v' : Value) (acc : List Nat), v' = v ∧ k = .int .i64 q ∧ q ≤ xl.length ∧ ordAcc is i (xl.drop q) acc = ordAcc is i xl [] ∧ acc.length ≤ q ∧ acc.Nodup ∧ (∀ a ∈ acc, a < is.length) ∧
      wr.ownsRow w.heap.size 3 1 v' acc.length (vN acc) ∧ wr.heap[w.heap.size]? = some (.cells (tabB is.length (memB acc)) 4 (0, 0)) ∧ Below w.heap.size w wr) (fun _ k _ _ => xl.length - (intOf k).toNat)
  case atStart => exact ⟨0, _, [], rfl, rfl, by omega, rfl, by simp, by simp, (fun a h => by cases h), World.ownsRow_nil _ _ _ _, alloc_at rfl, (Below.refl _ _).alloc (Nat.le_refl _) _⟩
  case round =>
    obtain ⟨q, v, acc, hv, rfl, hq, heq, hal, hnd, hlt', ho, hrow, hb⟩ := hrel
    subst hv
    have HO := Lib.hid ho
    have HROW := Lib.hid hrow
    have HB := Lib.hid hb
    have HND := Lib.hid hnd
    have HLT := Lib.hid hlt'
    have HE := Lib.hid heq
    have z0 := (HB.out.cell (p := ⟨wb, wo + i, none⟩) (World.block_lt_of_cell? w _ HZ.out)).trans HZ.out
    have haln : acc.length ≤ is.length := nodup_le _ _ hnd hlt'
    clear ho hrow hb hnd hlt' heq
    by_cases hlt : q < xl.length
    · have t0 : decide ((q : Int) < (xl.length : Int)) = true := by simp; omega
      have i1 : (q : Int) < (xl.length : Int) := by omega
      obtain ⟨xb, xo, rfl, z1⟩ := int_at (HSLX.out.below HB.out HSLX.out.lt) q hlt
      have HD := Lib.hid (List.drop_eq_getElem_cons hlt)
      rw [HD.out] at HE
      generalize xl[q] = x at z1 HE
      have K := Lib.hid (owner_any ia ic is x wr (by omega) (HS.out.below HB.out HS.out.lt))
      cases hf : is.findIdx? (· == x) with
      | none =>
        have HN := Lib.hid (show ordAcc is i (xl.drop (q + 1)) acc = ordAcc is i xl [] by
          have := HE.out
          rw [ordAcc, hf] at this
          exact this)
        rw [ownV_none hf] at K
        have t1 : ((-1 : Int) == (i : Int)) = false := beq_eq_false_iff_ne.2 (by omega)
        clear hf
        go_wp2_with (go_at_call 50; refine K.out.mono ?_; rintro r0 w2 ⟨rfl, rfl⟩)
        go_roundw
        case rel => exact ⟨q + 1, v, acc, rfl, by go_num, by omega, HN.out, by omega, HND.out, HLT.out, HO.out, HROW.out, HB.out⟩
        case measure => simp [intOf]; omega
      | some j =>
        rw [ownV_some hf] at K
        have hjl := find_lt hf
        by_cases hji : j = i
        · have HEQ := Lib.hid (show ord is xl i = acc ++ [i] by
            have := HE.out
            rw [ordAcc, hf] at this
            simp only [if_pos hji] at this
            rw [ord, ← this])
          have t1 : ((j : Int) == (i : Int)) = true := by simp [hji]
          have HJI := Lib.hid hji
          clear hf hji
          have h63 : acc.length + 1 ≤ maxLen := by unfold maxLen; omega
          have hby : (acc.length + 1) * 8 ≤ 140737488355328 := by omega
          have hbs : w.heap.size ≤ (wr.alloc (.cells #[.int .i64 i] 3)).heap.size := (HB.out.alloc HB.out.size _).size
          go_wp2_with (first
            | (go_at_call 50; refine K.out.mono ?_; rintro r0 w2 ⟨rfl, rfl⟩)
            | (at_builtin; refine wpList_append_sl rfl _ _ 22 rfl w.heap.size 3 (.int .i64 0) 1 8 Try.underlying22 infoI (by rfl) (by decide) v acc.length (vN acc) (by rfl) (HO.out.alloc _) (some ⟨wr.heap.size, 0, none⟩) 1 1 (vN [i]) (by rfl) (fun h => by cases h) (by rfl) (sl_new _ _ _ _) (oneCell_vN _) h63 hby hbs ?e1; intro v2 w3 ho3 hg3))
          have HB3 := Lib.hid ((HB.out.alloc HB.out.size (.cells #[.int .i64 i] 3)).grown hg3 hbs (fun q hq => (HO.out.lt q hq).1))
          obtain ⟨ad, cap, rfl, _, _, _, _⟩ := owns_len ho3
          go_ret
          exact ⟨ad, cap, by rw [HEQ.out, List.length_append]; rfl, by rw [HEQ.out, vN_append, List.length_append]; exact ho3, HB3.out⟩
        · have t1 : ((j : Int) == (i : Int)) = false := beq_eq_false_iff_ne.2 (by omega)
          have t2 : decide ((j : Int) ≥ 0) = true := decide_eq_true (by omega)
          have z2 := tabB_cell HROW.out j hjl
          have i2 : (j : Int) < (is.length : Int) := by omega
          by_cases hja : j ∈ acc
          · have HN := Lib.hid (show ordAcc is i (xl.drop (q + 1)) acc = ordAcc is i xl [] by
              have := HE.out
              rw [ordAcc, hf] at this
              simp only [if_neg hji, if_pos hja] at this
              exact this)
            rw [show memB acc j = true from decide_eq_true hja] at z2
            clear hf hji hja
            go_wp2_with (go_at_call 50; refine K.out.mono ?_; rintro r0 w2 ⟨rfl, rfl⟩)
            go_roundw
            case rel => exact ⟨q + 1, v, acc, rfl, by go_num, by omega, HN.out, by omega, HND.out, HLT.out, HO.out, HROW.out, HB.out⟩
            case measure => simp [intOf]; omega
          · have HN := Lib.hid (show ordAcc is i (xl.drop (q + 1)) (acc ++ [j]) = ordAcc is i xl [] by
              have := HE.out
              rw [ordAcc, hf] at this
              simp only [if_neg hji, if_neg hja] at this
              exact this)
            rw [show memB acc j = false from decide_eq_false hja] at z2
            have HJA := Lib.hid hja
            have h63 : acc.length + 1 ≤ maxLen := by unfold maxLen; omega
            have hby : (acc.length + 1) * 8 ≤ 140737488355328 := by omega
            have HNE := Lib.hid (show ∀ k, v.ownBlock = some k → k ≠ w.heap.size from fun k hk e => by
              subst e
              rcases HO.out.2 with ⟨rfl, _⟩ | ⟨g, cap, cur, rfl, _, hr, _⟩
              · cases hk
              · injection hk with hk
                have hk' : g = w.heap.size := hk
                rw [hk', HROW.out] at hr
                injection hr with h1
                injection h1 with _ h2
                exact absurd h2 (by decide))
            clear hf hji hja
            go_wp2_with (first
              | (go_at_call 50; refine K.out.mono ?_; rintro r0 w2 ⟨rfl, rfl⟩)
              | ((with_reducible refine at_store_op ?_); refine wpList_store_lit 4 w.heap.size j (tabB is.length (memB (acc ++ [j]))) (.bool true) HROW.out sz4 (by rw [tabB_size]; exact hjl) rfl (by rw [memB_snoc]; exact tabB_set _ _ _ hjl _) ?_ ?_ ?_; exact rfl; exact rfl; intro w3 hp3; have HB3 := Lib.hid (hp3.below HB.out HB.out.size (Nat.le_refl _)); have HO3 := Lib.hid (HO.out.kept hp3.grown (by
                  cases hv : v.ownBlock with
                  | none => exact .inl rfl
                  | some k => exact .inr (fun e => HNE.out k hv (by injection e)))))
              | (at_builtin; refine wpList_append_sl rfl _ _ 22 rfl w.heap.size 3 (.int .i64 0) 1 8 Try.underlying22 infoI (by rfl) (by decide) v acc.length (vN acc) (by rfl) (HO3.out.alloc _) (some ⟨w3.heap.size, 0, none⟩) 1 1 (vN [j]) (by rfl) (fun h => by cases h) (by rfl) (sl_new _ _ _ _) (oneCell_vN _) h63 hby (HB3.out.alloc HB3.out.size _).size ?f1; intro v2 w4 ho4 hg4))
            have HB4 := Lib.hid ((HB3.out.alloc HB3.out.size (.cells #[.int .i64 j] 3)).grown hg4 (HB3.out.alloc HB3.out.size (.cells #[.int .i64 j] 3)).size (fun q hq => (HO3.out.lt q hq).1))
            have HR4 := Lib.hid (row_past (alloc_old (p := .cells #[.int .i64 j] 3) hp3.at') hg4 (fun e => HNE.out _ e.symm rfl))
            have HO4 := Lib.hid ho4
            clear ho4 hg4
            go_wp2
            go_roundw
            case rel =>
              refine ⟨q + 1, _, acc ++ [j], rfl, by go_num, by omega, HN.out, by simp; omega, ?_, ?_, by rw [vN_append, List.length_append]; exact HO4.out, HR4.out, HB4.out⟩
              · rw [List.nodup_append]
                exact ⟨HND.out, by simp, fun a ha b hb e => by simp at hb; subst hb; subst e; exact HJA.out ha⟩
              · intro a ha
                rcases List.mem_append.1 ha with e | e
                · exact HLT.out a e
                · rw [List.mem_singleton.1 e]; exact hjl
            case measure => simp [intOf]; omega
    · have t0 : decide ((q : Int) < (xl.length : Int)) = false := by simp; omega
      have HEQ := Lib.hid (show ord is xl i = acc ++ [i] by
        have := HE.out
        rw [List.drop_of_length_le (by omega)] at this
        rw [ord, ← this]
        rfl)
      have K := Lib.hid (owner_any ia ic is 0 wr (by omega) (HS.out.below HB.out HS.out.lt))
      have h63 : acc.length + 1 ≤ maxLen := by unfold maxLen; omega
      have hby : (acc.length + 1) * 8 ≤ 140737488355328 := by omega
      have hbs : w.heap.size ≤ (wr.alloc (.cells #[.int .i64 i] 3)).heap.size := (HB.out.alloc HB.out.size _).size
      go_wp2_with (first
        | (go_at_call 50; refine K.out.mono ?_; rintro r0 w2 ⟨rfl, rfl⟩)
        | (at_builtin; refine wpList_append_sl rfl _ _ 22 rfl w.heap.size 3 (.int .i64 0) 1 8 Try.underlying22 infoI (by rfl) (by decide) v acc.length (vN acc) (by rfl) (HO.out.alloc _) (some ⟨wr.heap.size, 0, none⟩) 1 1 (vN [i]) (by rfl) (fun h => by cases h) (by rfl) (sl_new _ _ _ _) (oneCell_vN _) h63 hby hbs ?e2; intro v2 w3 ho3 hg3))
      have HB3 := Lib.hid ((HB.out.alloc HB.out.size (.cells #[.int .i64 i] 3)).grown hg3 hbs (fun q hq => (HO.out.lt q hq).1))
      obtain ⟨ad, cap, rfl, _, _, _, _⟩ := owns_len ho3
      go_ret
      exact ⟨ad, cap, by rw [HEQ.out, List.length_append]; rfl, by rw [HEQ.out, vN_append, List.length_append]; exact ho3, HB3.out⟩
end Go.Proofs.Ytpikmcapnmdmbaa
