/-
  Layer 22: who goes aside, and whose item each of them gets.
-/
import Derived.Test.YtpikmcapnmdmbaaWk
namespace Go.Proofs.Ytpikmcapnmdmbaa
open Go.RowKit Go.K Go.Maps
set_option linter.unusedVariables false
set_option linter.unusedSimpArgs false
theorem rnd_lt (k : Int) {n : Nat} (h : 0 < n) : rnd k n < n := by
  unfold rnd
  have e0 := Int.emod_nonneg k (show (n : Int) ≠ 0 by omega)
  have e1 := Int.emod_lt_of_pos k (show (0 : Int) < n by omega)
  show (k % (n : Int)).toNat < n
  omega
set_option maxRecDepth 100000 in
set_option maxHeartbeats 2000000 in
theorem group_any (ia : Option Addr) (ic n : Nat) (wa : Option Addr) (wc m : Nat) (oa : Option Addr) (oc : Nat) (who : List Int) (ea : Option Addr) (ec q : Nat) (w : World) (hn : n ≤ 1000000) (hwl : who.length ≤ 17592186043904) (hs : Sl w oa (vI who)) (hwf : Wf who) :
    Calls Try.prog 17 #[.agg #[.slice ia n ic, .slice wa m wc, .slice oa who.length oc, .slice ea q ec]] w fun r w' => ∃ (L : List Nat) (ad : Option Addr) (cap : Nat), r = .returned (.slice ad L.length cap) ∧ L.Nodup ∧ (∀ a ∈ L, a < n) ∧ w'.ownsRow w.heap.size 3 1 (.slice ad L.length cap) L.length (vN L) ∧ Below w.heap.size w w' := by
  have HS := Lib.hid hs
  have HWF := Lib.hid hwf
  clear hs hwf
  go_enter Try.func17, Try.ntmps17
  go_wp2
  go_loopw [3, 4, 5, 6, 7] (fun v i x5 x6 x7 wr => ∃ (k : Nat) (v' : Value) (L : List Nat), v' = v ∧ k ≤ who.length ∧ i = .int .i64 k ∧ L.Nodup ∧ (∀ a ∈ L, a < n) ∧ wr.ownsRow (w.heap.size + 1) 3 1 v' L.length (vN L) ∧
      wr.heap[w.heap.size]? = some (.cells #[.slice ia n ic, .slice wa m wc, .slice oa who.length oc, .slice ea q ec] 25 (0, 0)) ∧ Below w.heap.size w wr) (fun _ i _ _ _ _ => who.length - (intOf i).toNat)
  case atStart => exact ⟨0, _, [], rfl, by omega, rfl, by simp, (fun a h => by cases h), World.ownsRow_nil _ _ _ _, alloc_at rfl, (Below.refl _ _).alloc (Nat.le_refl _) _⟩
  case round =>
    obtain ⟨k, v, L, hv, hk, rfl, hnd, hlt', ho, hrow, hb⟩ := hrel
    subst hv
    have HND := Lib.hid hnd
    have HLT := Lib.hid hlt'
    have HO := Lib.hid ho
    have HROW := Lib.hid hrow
    have HB := Lib.hid hb
    have hLn : L.length ≤ n := nodup_le _ _ hnd hlt'
    have c0 : wr.cell? ⟨w.heap.size, 0, none⟩ = some (.slice ia n ic) := by rw [cell_of_row _ _ _ _ _ _ hrow]; rfl
    have c2 : wr.cell? ⟨w.heap.size, 2, none⟩ = some (.slice oa who.length oc) := by rw [cell_of_row _ _ _ _ _ _ hrow]; rfl
    clear hnd hlt' ho hrow hb
    by_cases hlt : k < who.length
    · have t0 : decide ((k : Int) < (who.length : Int)) = true := by simp; omega
      have i0 : (k : Int) < (who.length : Int) := by omega
      by_cases hn0 : 0 < n
      · have t1 : decide ((n : Int) > 0) = true := decide_eq_true (by omega)
        obtain ⟨b, o, rfl, z0⟩ := int_at (HS.out.below HB.out HS.out.lt) k hlt
        have HX := Lib.hid (HWF.out _ (List.getElem_mem hlt))
        generalize who[k] = x at z0 HX
        have K25 := Lib.hid (fun W => (round_any x n W HX.out hn0 (by omega)).mono (fun _ _ h => And.intro h.1 h.2.symm))
        have HR := Lib.hid (rnd_lt x hn0)
        generalize rnd x n = a at K25 HR
        have z0' := z0
        go_wp2
        go_quiet ((go_at_call 25; exact Calls.quiet_of_same (K25.out _)))
        have HLL := Lib.hid (owns_slice HO.out)
        obtain ⟨vad, vcap, hvv, _, hsl, _⟩ := owns_slice HO.out
        subst hvv
        have HSL := Lib.hid hsl
        clear hsl HLL z0'
        have hLmx : (L.length : Int) ≤ 1000000 := by omega
        obtain ⟨w4, hw4⟩ : ∃ W, W = wr.drewN nq := ⟨_, rfl⟩
        have HB4 := Lib.hid (show Below w.heap.size w w4 by rw [hw4]; exact HB.out.trans ((Qt.drewN wr nq).below _))
        have HO4 := Lib.hid (show w4.ownsRow (w.heap.size + 1) 3 1 (.slice vad L.length vcap) L.length (vN L) by rw [hw4]; exact HO.out)
        have HSL4 := Lib.hid (show Sl w4 vad (vN L) by rw [hw4]; exact HSL.out)
        have HROW4 := Lib.hid (show w4.heap[w.heap.size]? = some (.cells #[.slice ia n ic, .slice wa m wc, .slice (some ⟨b, o, none⟩) who.length oc, .slice ea q ec] 25 (0, 0)) by rw [hw4]; exact HROW.out)
        rw [← hw4]
        clear hw4 z0 c0 c2
        go_wp2
        go_loopw [6, 7] (fun x6 i wr => ∃ q : Nat, q ≤ L.length ∧ i = .int .i64 q ∧ x6 = .bool (decide (a ∈ L.take q)) ∧ w4 = wr) (fun _ i _ => L.length - (intOf i).toNat)
        case atStart => exact ⟨0, by omega, rfl, by simp, rfl⟩
        case round =>
          obtain ⟨p, hp, rfl, rfl, rfl⟩ := hrel
          by_cases hpl : p < L.length
          · have t2 : decide ((p : Int) < (L.length : Int)) = true := by simp; omega
            have HT := Lib.hid (take_getD hpl)
            by_cases hin : a ∈ L.take p
            · have HN := Lib.hid (show decide (a ∈ L.take (p + 1)) = true from decide_eq_true (by rw [HT.out]; exact List.mem_append_left _ hin))
              rw [decide_eq_true hin]
              clear hin
              go_wp2
              go_roundw
              case rel => exact ⟨p + 1, by omega, by go_num, by rw [HN.out], by trivial⟩
              case measure => simp [intOf]; omega
            · have i2 : (p : Int) < (L.length : Int) := by omega
              obtain ⟨lb, lo, rfl, hc⟩ := HSL4.out (show vN L ≠ [] from fun e => by have := vN_length L; rw [e] at this; simp at this; omega)
              have z1 := hc p (by rw [vN_length]; exact hpl)
              rw [vN_get L p hpl] at z1
              have HN := Lib.hid (show decide (a ∈ L.take (p + 1)) = (((L.getD p 0 : Nat) : Int) == (a : Int)) by
                rw [HT.out]
                by_cases e : a = L.getD p 0
                · subst e; simp
                · have e2 : (((L.getD p 0 : Nat) : Int) == (a : Int)) = false := beq_eq_false_iff_ne.2 (by omega)
                  rw [e2]
                  exact decide_eq_false (fun h => by
                    rcases List.mem_append.1 h with h | h
                    · exact hin h
                    · exact e (List.mem_singleton.1 h)))
              rw [decide_eq_false hin]
              clear hin hc
              generalize L.getD p 0 = lp at z1 HN
              by_cases e : ((lp : Int) == (a : Int)) = true
              · have HN := Lib.hid (HN.out.trans e)
                go_wp2
                go_roundw
                case rel => exact ⟨p + 1, by omega, by go_num, by rw [HN.out], by trivial⟩
                case measure => simp [intOf]; omega
              · have e' : ((lp : Int) == (a : Int)) = false := by simpa using e
                have HN := Lib.hid (HN.out.trans e')
                clear e
                go_wp2
                go_roundw
                case rel => exact ⟨p + 1, by omega, by go_num, by rw [HN.out], by trivial⟩
                case measure => simp [intOf]; omega
          · have t2 : decide ((p : Int) < (L.length : Int)) = false := by simp; omega
            have HT := Lib.hid (show L.take p = L from List.take_of_length_le (by omega))
            rw [HT.out]
            by_cases hin : a ∈ L
            · rw [decide_eq_true hin]
              clear hin
              go_wp2
              go_roundw
              case rel => exact ⟨k + 1, _, L, rfl, by omega, by go_num, HND.out, HLT.out, HO4.out, HROW4.out, HB4.out⟩
              case measure => simp [intOf]; omega
            · rw [decide_eq_false hin]
              have HIN := Lib.hid hin
              clear hin
              have h63 : L.length + 1 ≤ maxLen := by unfold maxLen; omega
              have hby : (L.length + 1) * 8 ≤ 140737488355328 := by omega
              have hbs : w.heap.size + 1 ≤ (w4.alloc (.cells #[.int .i64 a] 3)).heap.size := by have := lt_row HROW4.out; simp; omega
              go_wp2_with (at_builtin; refine wpList_append_sl rfl _ _ 22 rfl (w.heap.size + 1) 3 (.int .i64 0) 1 8 Try.underlying22 infoI (by rfl) (by decide) (.slice vad L.length vcap) L.length (vN L) (by rfl) (HO4.out.alloc _) (some ⟨w4.heap.size, 0, none⟩) 1 1 (vN [a]) (by rfl) (fun h => by cases h) (by rfl) (sl_new _ _ _ _) (oneCell_vN _) h63 hby hbs ?g1)
              intro v2 w5 ho5 hg5
              have HO5 := Lib.hid ho5
              have HB5 := Lib.hid ((HB4.out.alloc HB4.out.size (.cells #[.int .i64 a] 3)).grown hg5 (by simp; have := HB4.out.size; omega) (fun q hq => by have := (HO4.out.lt q hq).1; omega))
              have HROW5 := Lib.hid (row_past (alloc_old (p := .cells #[.int .i64 a] 3) HROW4.out) hg5 (fun e => by have := (HO4.out.lt _ e.symm).1; omega))
              clear ho5 hg5
              go_wp2
              go_roundw
              case rel =>
                refine ⟨k + 1, _, L ++ [a], rfl, by omega, by go_num, ?_, ?_, by rw [vN_append, List.length_append]; exact HO5.out, HROW5.out, HB5.out⟩
                · rw [List.nodup_append]
                  exact ⟨HND.out, by simp, fun x hx y hy e => by simp at hy; subst hy; subst e; exact HIN.out hx⟩
                · intro x hx
                  rcases List.mem_append.1 hx with e | e
                  · exact HLT.out x e
                  · rw [List.mem_singleton.1 e]; exact HR.out
              case measure => simp [intOf]; omega
      · have t1 : decide ((n : Int) > 0) = false := decide_eq_false (by omega)
        go_wp2
        obtain ⟨ad, cap, rfl, _, _, _, _⟩ := owns_len HO.out
        go_ret
        exact ⟨L, ad, cap, rfl, HND.out, HLT.out, owns_base HO.out (by omega), HB.out⟩
    · have t0 : decide ((k : Int) < (who.length : Int)) = false := by simp; omega
      go_wp2
      obtain ⟨ad, cap, rfl, _, _, _, _⟩ := owns_len HO.out
      go_ret
      exact ⟨L, ad, cap, rfl, HND.out, HLT.out, owns_base HO.out (by omega), HB.out⟩
end Go.Proofs.Ytpikmcapnmdmbaa
