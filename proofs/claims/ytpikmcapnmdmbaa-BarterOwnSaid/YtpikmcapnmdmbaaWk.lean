/-
  Layer 22: the document's Place and Better, of an entry of a meet.
-/
import Derived.Test.YtpikmcapnmdmbaaWj
namespace Go.Proofs.Ytpikmcapnmdmbaa
open Go.RowKit Go.K Go.Maps
set_option linter.unusedVariables false
set_option linter.unusedSimpArgs false
theorem ordAcc_lt {is : List Int} {i : Nat} : ∀ {l : List Int} {acc : List Nat}, (∀ a ∈ acc, a < is.length) → ∀ a ∈ ordAcc is i l acc, a < is.length
  | [], acc, h, a, ha => h a ha
  | x :: xs, acc, h, a, ha => by
    rw [ordAcc] at ha
    cases hf : is.findIdx? (· == x) with
    | none => rw [hf] at ha; exact ordAcc_lt h a ha
    | some k =>
      rw [hf] at ha
      simp only at ha
      split at ha
      · exact h a ha
      · split at ha
        · exact ordAcc_lt h a ha
        · refine ordAcc_lt (fun b hb => ?_) a ha
          rcases List.mem_append.1 hb with e | e
          · exact h b e
          · rw [List.mem_singleton.1 e]; exact find_lt hf
theorem ord_lt {is l : List Int} {i : Nat} (hi : i < is.length) : ∀ a ∈ ord is l i, a < is.length := by
  intro a ha
  rcases List.mem_append.1 ha with e | e
  · exact ordAcc_lt (fun b hb => by cases hb) a e
  · rw [List.mem_singleton.1 e]; exact hi
theorem ordAcc_nd {is : List Int} {i : Nat} : ∀ {l : List Int} {acc : List Nat}, acc.Nodup → (ordAcc is i l acc).Nodup
  | [], acc, h => h
  | x :: xs, acc, h => by
    rw [ordAcc]
    cases hf : is.findIdx? (· == x) with
    | none => exact ordAcc_nd h
    | some k =>
      simp only
      split
      · exact h
      · split
        · exact ordAcc_nd h
        · rename_i h2
          refine ordAcc_nd ?_
          rw [List.nodup_append]
          exact ⟨h, by simp, fun a ha b hb e => by simp at hb; subst hb; subst e; exact h2 ha⟩
/-- The place of an item in an order. -/
def plc (is : List Int) (o : List Nat) (x : Int) : Nat := (o.findIdx? (fun j => is.getD j 0 == x)).getD o.length
set_option maxRecDepth 100000 in
set_option maxHeartbeats 2000000 in
theorem place_any (ia : Option Addr) (ic : Nat) (is : List Int) (wa : Option Addr) (wc : Nat) (ws : List Wl) (i : Nat) (x : Int) (w : World) (hl : is.length ≤ 1000000) (hs : Sl w ia (vI is)) (hws : WsOk w wa ws) (hi : i < ws.length) (hil : i < is.length) (hwl : ws.length ≤ 1000000) :
    Calls Try.prog 51 #[.slice ia is.length ic, .slice wa ws.length wc, .int .i64 i, .int .i64 x] w fun r w' => r = .returned (.int .i64 ((plc is (ord is ws[i].l i) x : Nat) : Int)) ∧ Below w.heap.size w w' := by
  have HS := Lib.hid hs
  have K52 := Lib.hid (order_any ia ic is wa wc ws i w hl hs hws hi hil hwl)
  have HLT := Lib.hid (ord_lt (l := ws[i].l) hil)
  generalize ord is ws[i].l i = o at K52 HLT
  clear hs hws
  go_enter Try.func51, Try.ntmps51
  go_wp2_with fail
  refine K52.out.mono ?_
  rintro r w2 ⟨ad, cap, rfl, ho, hb⟩
  have HO := Lib.hid (owns_slice ho)
  have HB := Lib.hid hb
  obtain ⟨ad', cap', hv, hn', hsl, hle⟩ := owns_slice ho
  injection hv with h1 _ h3
  subst h1 h3
  have HSL := Lib.hid hsl
  have hom : o.length ≤ maxLen := by
    obtain ⟨_, _, hv2, h4, h5, _⟩ := owns_len ho
    exact Nat.le_trans h4 h5
  have hom' : (o.length : Int) ≤ 9223372036854775807 := by unfold maxLen at hom; omega
  clear ho hb hsl HO hn' hle hom K52
  go_wp2
  go_loopw [10] (fun k wr => ∃ q : Nat, q ≤ o.length ∧ k = .int .i64 q ∧ (∀ p (h : p < o.length), p < q → is.getD o[p] 0 ≠ x) ∧ w2 = wr) (fun k _ => o.length - (intOf k).toNat)
  case atStart => exact ⟨0, by omega, rfl, fun p h hp => by omega, rfl⟩
  case round =>
    obtain ⟨q, hq, rfl, hn, rfl⟩ := hrel
    have HN := Lib.hid hn
    clear hn
    by_cases hlt : q < o.length
    · have t0 : decide ((q : Int) < (o.length : Int)) = true := by simp; omega
      have i1 : (q : Int) < (o.length : Int) := by omega
      obtain ⟨b, of', rfl, hc⟩ := HSL.out (show vN o ≠ [] from fun e => by have := vN_length o; rw [e] at this; simp at this; omega)
      have z1 := hc q (by rw [vN_length]; exact hlt)
      rw [vN_get o q hlt] at z1
      have hoq := HLT.out _ (getD_mem hlt)
      obtain ⟨ib, io, rfl, z2⟩ := int_at (HS.out.below HB.out HS.out.lt) (o.getD q 0) hoq
      have i2 : ((o.getD q 0 : Nat) : Int) < (is.length : Int) := by omega
      have HG := Lib.hid (show is.getD (o.getD q 0) 0 = is[o.getD q 0] by rw [List.getD_eq_getElem?_getD, List.getElem?_eq_getElem hoq]; rfl)
      have HQ := Lib.hid (show o.getD q 0 = o[q] by rw [List.getD_eq_getElem?_getD, List.getElem?_eq_getElem hlt]; rfl)
      rw [← HQ.out] at HQ
      by_cases e : is.getD o[q] 0 = x
      · have HP := Lib.hid (show plc is o x = q by
          unfold plc
          rw [(List.findIdx?_eq_some_iff_getElem).2 ⟨hlt, by simpa using e, fun j hj => by have := HN.out j (by omega) hj; simpa using this⟩]
          rfl)
        have HV := Lib.hid (show is[o.getD q 0] = x by rw [← HG.out, ← e]; congr 1; rw [List.getD_eq_getElem?_getD, List.getElem?_eq_getElem hlt]; rfl)
        rw [HV.out] at z2
        have t1 : (x == x) = true := by simp
        clear e hc
        generalize o.getD q 0 = oq at z1 z2 i2
        go_wp2
        go_ret
        exact ⟨by rw [HP.out]; rfl, HB.out⟩
      · have HV := Lib.hid (show is[o.getD q 0] ≠ x from fun e2 => e (by rw [← e2, ← HG.out]; congr 1; rw [List.getD_eq_getElem?_getD, List.getElem?_eq_getElem hlt]; rfl))
        have HN2 := Lib.hid (show ∀ p (h : p < o.length), p < q + 1 → is.getD o[p] 0 ≠ x from fun p h hp => by
          by_cases e2 : p = q
          · subst e2; exact e
          · exact HN.out p h (by omega))
        have t1 : (is[o.getD q 0] == x) = false := by simpa using HV.out
        clear e hc HG
        generalize is[o.getD q 0] = y at z2 t1
        generalize o.getD q 0 = oq at z1 z2 i2
        go_wp2
        go_roundw
        case rel => exact ⟨q + 1, by omega, by go_num, HN2.out, by trivial⟩
        case measure => simp [intOf]; omega
    · have t0 : decide ((q : Int) < (o.length : Int)) = false := by simp; omega
      have HP := Lib.hid (show plc is o x = o.length by
        unfold plc
        rw [List.findIdx?_eq_none_iff.2 (fun j hj => by
          obtain ⟨p, hp, rfl⟩ := List.mem_iff_getElem.1 hj
          have := HN.out p hp (by omega)
          simpa using this)]
        rfl)
      go_wp2
      go_ret
      exact ⟨by rw [HP.out]; rfl, HB.out⟩
set_option maxRecDepth 100000 in
set_option maxHeartbeats 2000000 in
theorem better_any (ia : Option Addr) (ic : Nat) (is : List Int) (wa : Option Addr) (wc : Nat) (ws : List Wl) (i : Nat) (x y : Int) (w : World) (hl : is.length ≤ 1000000) (hs : Sl w ia (vI is)) (hws : WsOk w wa ws) (hi : i < ws.length) (hil : i < is.length) (hm : MeetP is ws.length) :
    Calls Try.prog 16 #[.slice ia is.length ic, .slice wa ws.length wc, .int .i64 i, .int .i64 x, .int .i64 y] w fun r w' => r = .returned (.bool (decide (plc is (ord is ws[i].l i) x < plc is (ord is ws[i].l i) y))) ∧ Below w.heap.size w w' := by
  have hwl : ws.length ≤ 1000000 := by rw [← hm.1]; exact hl
  have K15 := Lib.hid (meet_any ia ic is wa wc ws.length w (by omega) hs)
  rw [(meetV_iff is ws.length).2 hm] at K15
  have K51 := Lib.hid (fun z V (h : Below w.heap.size w V) => place_any ia ic is wa wc ws i z V hl (hs.below h hs.lt) (hws.kept h) hi hil hwl)
  have t1 : decide ((i : Int) < 0) = false := decide_eq_false (by omega)
  have t2 : decide ((i : Int) ≥ (is.length : Int)) = false := decide_eq_false (by omega)
  generalize ord is ws[i].l i = o at K51
  clear hs hws hm
  go_enter Try.func16, Try.ntmps16
  go_wp2_with (go_at_call 15; refine K15.out.mono ?_; rintro r0 w1 ⟨rfl, rfl⟩)
  refine (K51.out x _ (Below.refl _ _)).mono ?_
  rintro r0 w2 ⟨rfl, hb2⟩
  have HB2 := Lib.hid hb2
  clear hb2
  go_wp2_with fail
  refine (K51.out y _ HB2.out).mono ?_
  rintro r0 w3 ⟨rfl, hb3⟩
  have HB3 := Lib.hid (HB2.out.trans (hb3.mono HB2.out.size))
  clear hb3
  go_wp2
  go_ret
  exact ⟨by simp, HB3.out⟩
end Go.Proofs.Ytpikmcapnmdmbaa
