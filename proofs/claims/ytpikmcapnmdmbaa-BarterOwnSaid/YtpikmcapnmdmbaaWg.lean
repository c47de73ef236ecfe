/-
  Layer 22: the statements' and the document's small functions: many, round, owner, Meet; the lists that are lent.
-/
import Derived.Test.YtpikmcapnmdmbaaWc
import Derived.Test.YtpikmcapnmdmbaaGen
namespace Go.Proofs.Ytpikmcapnmdmbaa
open Go.RowKit Go.K Go.Maps
set_option linter.unusedVariables false
set_option linter.unusedSimpArgs false
def total (ws : List Wl) : Nat := (ws.map fun x => x.l.length).sum
set_option maxRecDepth 100000 in
theorem many_any (ia : Option Addr) (ic : Nat) (is : List Int) (wa : Option Addr) (wc : Nat) (ws : List Wl) (w : World) (hi : is.length ≤ 17592186043904) (hl : ws.length ≤ 17592186043904) (hws : WsOk w wa ws) :
    Calls Try.prog 11 #[.slice ia is.length ic, .slice wa ws.length wc] w fun r w' => (∃ b : Bool, r = .returned (.bool b) ∧ (b = false → is.length + ws.length + total ws ≤ 3000)) ∧ w = w' := by
  have HWS := Lib.hid hws
  clear hws
  go_enter Try.func11, Try.ntmps11
  go_wp2
  go_loopw [5, 6] (fun n i wr => ∃ (k m : Nat), k ≤ ws.length ∧ i = .int .i64 k ∧ n = .int .i64 m ∧ m = is.length + ws.length + total (ws.take k) ∧ m ≤ 52776558131712 ∧ w = wr) (fun _ i _ => ws.length - (intOf i).toNat)
  case atStart => exact ⟨0, is.length + ws.length, by omega, rfl, by simp, by simp [total], by omega, rfl⟩
  case round =>
    obtain ⟨k, m, hk, rfl, rfl, hm, hmb, rfl⟩ := hrel
    have HM := Lib.hid hm
    clear hm
    by_cases hlt : k < ws.length
    · have t0 : decide ((k : Int) < (ws.length : Int)) = true := by simp; omega
      by_cases h3 : m ≤ 3000
      · have t1 : decide ((m : Int) ≤ 3000) = true := by simp; omega
        have i0 : (k : Int) < (ws.length : Int) := by omega
        obtain ⟨b, o, rfl, z0⟩ := HWS.out.at' k hlt
        have hx := (HWS.out.each _ (List.getElem_mem hlt)).mx
        have HT := Lib.hid (show total (ws.take (k + 1)) = total (ws.take k) + ws[k].l.length by
          unfold total
          rw [List.take_succ_eq_append_getElem hlt, List.map_append, List.sum_append]
          simp only [List.map_cons, List.map_nil, List.sum_cons, List.sum_nil, Nat.add_zero])
        generalize ws[k] = x at z0 hx HT
        obtain ⟨xa, xc, xl⟩ := x
        simp only at z0 hx HT
        go_wp2
        go_roundw
        case rel => exact ⟨k + 1, m + xl.length, by omega, by go_num, by simp, by rw [HT.out, HM.out]; omega, by omega, by trivial⟩
        case measure => simp [intOf]; omega
      · have t1 : decide ((m : Int) ≤ 3000) = false := by simp; omega
        have t2 : decide ((m : Int) > 3000) = true := decide_eq_true (by omega)
        go_wp2
        go_ret
        exact ⟨⟨true, rfl, fun h => by cases h⟩, rfl⟩
    · have t0 : decide ((k : Int) < (ws.length : Int)) = false := by simp; omega
      have HT := Lib.hid (show m = is.length + ws.length + total ws by rw [HM.out, List.take_of_length_le (by omega)])
      by_cases h3 : m ≤ 3000
      · have t2 : decide ((m : Int) > 3000) = false := decide_eq_false (by omega)
        go_wp2
        go_ret
        exact ⟨⟨false, rfl, fun _ => by rw [← HT.out]; exact h3⟩, rfl⟩
      · have t2 : decide ((m : Int) > 3000) = true := decide_eq_true (by omega)
        go_wp2
        go_ret
        exact ⟨⟨true, rfl, fun h => by cases h⟩, rfl⟩
def ownV (is : List Int) (x : Int) : Int := match is.findIdx? (· == x) with
  | some k => (k : Int)
  | none => -1
set_option maxRecDepth 100000 in
theorem owner_any (ia : Option Addr) (ic : Nat) (is : List Int) (x : Int) (w : World) (hl : is.length ≤ 17592186043904) (hs : Sl w ia (vI is)) :
    Calls Try.prog 50 #[.slice ia is.length ic, .int .i64 x] w fun r w' => r = .returned (.int .i64 (ownV is x)) ∧ w = w' := by
  have HS := Lib.hid hs
  clear hs
  go_enter Try.func50, Try.ntmps50
  go_wp2
  go_loopw [5] (fun i wr => ∃ k : Nat, k ≤ is.length ∧ i = .int .i64 k ∧ (∀ q (h : q < is.length), q < k → is[q] ≠ x) ∧ w = wr) (fun i _ => is.length - (intOf i).toNat)
  case atStart => exact ⟨0, by omega, rfl, fun q h hq => by omega, rfl⟩
  case round =>
    obtain ⟨k, hk, rfl, hn, rfl⟩ := hrel
    have HN := Lib.hid hn
    clear hn
    by_cases hlt : k < is.length
    · have t0 : decide ((k : Int) < (is.length : Int)) = true := by simp; omega
      have i1 : (k : Int) < (is.length : Int) := by omega
      obtain ⟨b, o, rfl, z1⟩ := int_at HS.out k hlt
      by_cases e : is[k] = x
      · have HV := Lib.hid (show ownV is x = (k : Int) by
          unfold ownV
          rw [(List.findIdx?_eq_some_iff_getElem).2 ⟨hlt, by simp [e], fun j hj => by have := HN.out j (by omega) hj; simpa using this⟩])
        rw [e] at z1
        have t1 : (x == x) = true := by simp
        clear e
        go_wp2
        go_ret
        exact ⟨by rw [HV.out]; rfl, rfl⟩
      · have HE := Lib.hid e
        have t1 : (is[k] == x) = false := by simpa using e
        have HN2 := Lib.hid (show ∀ q (h : q < is.length), q < k + 1 → is[q] ≠ x from fun q h hq => by
          by_cases e2 : q = k
          · subst e2; exact HE.out
          · exact HN.out q h (by omega))
        generalize is[k] = y at z1 t1
        clear e
        go_wp2
        go_roundw
        case rel => exact ⟨k + 1, by omega, by go_num, HN2.out, by trivial⟩
        case measure => simp [intOf]; omega
    · have t0 : decide ((k : Int) < (is.length : Int)) = false := by simp; omega
      have HV := Lib.hid (show ownV is x = -1 by
        unfold ownV
        rw [List.findIdx?_eq_none_iff.2 (fun y hy => by
          obtain ⟨q, hq, rfl⟩ := List.mem_iff_getElem.1 hy
          have := HN.out q hq (by omega)
          simpa using this)])
      go_wp2
      go_ret
      exact ⟨by rw [HV.out]; rfl, rfl⟩
/-- The document's Meet. -/
def MeetV (is : List Int) (m : Nat) : Bool := decide (is.length = m) && decide (∀ k, k < is.length → 1 ≤ is.getD k 0 ∧ ownV is (is.getD k 0) = (k : Int))
theorem meetV_iff (is : List Int) (m : Nat) : MeetV is m = true ↔ MeetP is m := by
  unfold MeetV MeetP
  rw [Bool.and_eq_true, decide_eq_true_eq, decide_eq_true_eq]
  constructor
  · rintro ⟨h1, h2⟩
    refine ⟨h1, ?_, ?_⟩
    · rw [List.nodup_iff_pairwise_ne, List.pairwise_iff_getElem]
      intro i j hi hj hij e
      have := (h2 j hj).2
      rw [List.getD_eq_getElem?_getD, List.getElem?_eq_getElem hj] at this
      simp only [Option.getD_some] at this
      rw [← e] at this
      have h3 := (h2 i hi).2
      rw [List.getD_eq_getElem?_getD, List.getElem?_eq_getElem hi] at h3
      simp only [Option.getD_some] at h3
      rw [h3] at this
      omega
    · intro x hx
      obtain ⟨k, hk, rfl⟩ := List.mem_iff_getElem.1 hx
      have := (h2 k hk).1
      rwa [List.getD_eq_getElem?_getD, List.getElem?_eq_getElem hk] at this
  · rintro ⟨h1, h2, h3⟩
    refine ⟨h1, fun k hk => ?_⟩
    rw [List.getD_eq_getElem?_getD, List.getElem?_eq_getElem hk]
    refine ⟨h3 _ (List.getElem_mem hk), ?_⟩
    unfold ownV
    simp only [Option.getD_some]
    rw [find_at h2 k hk]
set_option maxRecDepth 100000 in
theorem meet_any (ia : Option Addr) (ic : Nat) (is : List Int) (wa : Option Addr) (wc m : Nat) (w : World) (hl : is.length ≤ 17592186043904) (hs : Sl w ia (vI is)) :
    Calls Try.prog 15 #[.slice ia is.length ic, .slice wa m wc] w fun r w' => r = .returned (.bool (MeetV is m)) ∧ w = w' := by
  have HS := Lib.hid hs
  have K50 := Lib.hid (fun x => owner_any ia ic is x w hl hs)
  clear hs
  go_enter Try.func15, Try.ntmps15
  by_cases hm : is.length = m
  · have t0 : ((is.length : Int) != (m : Int)) = false := by simp; omega
    have HM := Lib.hid hm
    clear hm
    go_wp2
    go_loopw [5] (fun i wr => ∃ k : Nat, k ≤ is.length ∧ i = .int .i64 k ∧ (∀ q, q < k → 1 ≤ is.getD q 0 ∧ ownV is (is.getD q 0) = (q : Int)) ∧ w = wr) (fun i _ => is.length - (intOf i).toNat)
    case atStart => exact ⟨0, by omega, rfl, fun q hq => by omega, rfl⟩
    case round =>
      obtain ⟨k, hk, rfl, hn, rfl⟩ := hrel
      have HN := Lib.hid hn
      clear hn
      by_cases hlt : k < is.length
      · have t1 : decide ((k : Int) < (is.length : Int)) = true := by simp; omega
        have i1 : (k : Int) < (is.length : Int) := by omega
        obtain ⟨b, o, rfl, z1⟩ := int_at HS.out k hlt
        have HG := Lib.hid (show is.getD k 0 = is[k] by rw [List.getD_eq_getElem?_getD, List.getElem?_eq_getElem hlt]; rfl)
        generalize is[k] = x at z1 HG
        have HV := Lib.hid (show ¬ (1 ≤ x ∧ ownV is x = (k : Int)) → MeetV is m = false from fun h => by
          unfold MeetV
          rw [Bool.and_eq_false_iff]
          right
          exact decide_eq_false (fun h2 => h (by have := h2 k hlt; rwa [HG.out] at this)))
        by_cases h1 : x < 1
        · have t2 : decide (x < 1) = true := by simpa using h1
          go_wp2
          go_ret
          exact ⟨by rw [HV.out (by omega)]; rfl, rfl⟩
        · have t2 : decide (x < 1) = false := by simpa using h1
          have K := Lib.hid (K50.out x)
          by_cases h2 : ownV is x = (k : Int)
          · have t3 : (ownV is x != (k : Int)) = false := by simpa using h2
            have HN2 := Lib.hid (show ∀ q, q < k + 1 → 1 ≤ is.getD q 0 ∧ ownV is (is.getD q 0) = (q : Int) from fun q hq => by
              by_cases e : q = k
              · subst e; rw [HG.out]; exact ⟨by omega, h2⟩
              · exact HN.out q (by omega))
            generalize ownV is x = ox at K t3
            clear h2
            go_wp2_with (go_at_call 50; refine K.out.mono ?_; rintro r0 w2 ⟨rfl, rfl⟩)
            go_roundw
            case rel => exact ⟨k + 1, by omega, by go_num, HN2.out, by trivial⟩
            case measure => simp [intOf]; omega
          · have t3 : (ownV is x != (k : Int)) = true := by simpa using h2
            have HV2 := Lib.hid (HV.out (fun h => h2 h.2))
            generalize ownV is x = ox at K t3
            clear h2
            go_wp2_with (go_at_call 50; refine K.out.mono ?_; rintro r0 w2 ⟨rfl, rfl⟩)
            go_ret
            exact ⟨by rw [HV2.out]; rfl, rfl⟩
      · have t1 : decide ((k : Int) < (is.length : Int)) = false := by simp; omega
        have HV := Lib.hid (show MeetV is m = true by
          unfold MeetV
          rw [Bool.and_eq_true, decide_eq_true_eq, decide_eq_true_eq]
          exact ⟨HM.out, fun q hq => HN.out q (by omega)⟩)
        go_wp2
        go_ret
        exact ⟨by rw [HV.out]; rfl, rfl⟩
  · have t0 : ((is.length : Int) != (m : Int)) = true := by simp; omega
    have HV := Lib.hid (show MeetV is m = false by unfold MeetV; rw [decide_eq_false hm]; rfl)
    go_wp2
    go_ret
    exact ⟨by rw [HV.out]; rfl, rfl⟩
def rnd (k : Int) (n : Nat) : Nat := (k.emod n).toNat
set_option maxRecDepth 100000 in
theorem round_any (k : Int) (n : Nat) (w : World) (hk : (Lit.int .i64 k).wf = true) (hn : 0 < n) (hm : n ≤ 17592186043904) :
    Calls Try.prog 25 #[.int .i64 k, .int .i64 n] w fun r w' => r = .returned (.int .i64 ((rnd k n : Nat) : Int)) ∧ w = w' := by
  have hn0 : ((n : Int) == 0) = false := beq_eq_false_iff_ne.2 (by omega)
  have hlo : (0 : Int) < n := by omega
  have e0 := Int.emod_nonneg k (show (n : Int) ≠ 0 by omega)
  have e1 := Int.emod_lt_of_pos k hlo
  have e2 : k.tmod n = if 0 ≤ k ∨ (n : Int) ∣ k then k % n else k % n - n := by
    rw [Int.tmod_eq_emod]
    by_cases h : 0 ≤ k ∨ (n : Int) ∣ k
    · rw [if_pos h, if_pos h]; simp
    · rw [if_neg h, if_neg h]; simp
  have HR := Lib.hid (show ((rnd k n : Nat) : Int) = k % n from Int.toNat_of_nonneg e0)
  have HT := Lib.hid (show (k.tmod n < 0 ∧ k.tmod n + n = k % n) ∨ (0 ≤ k.tmod n ∧ k.tmod n = k % n) by
    rw [e2]
    by_cases h : 0 ≤ k ∨ (n : Int) ∣ k
    · rw [if_pos h]; exact .inr ⟨e0, rfl⟩
    · rw [if_neg h]; exact .inl ⟨by omega, by omega⟩)
  go_enter Try.func25, Try.ntmps25
  obtain ⟨t, ht⟩ : ∃ t, k.tmod (n : Int) = t := ⟨_, rfl⟩
  rw [ht] at HT
  have hnb : (n : Int) ≤ 17592186043904 := by omega
  clear e2
  rcases HT.out with ⟨h1, h2⟩ | ⟨h1, h2⟩
  · have t0 : decide (t < 0) = true := by simpa using h1
    have HE := Lib.hid (show t + (n : Int) = ((rnd k n : Nat) : Int) from h2.trans HR.out.symm)
    have h3 : 0 ≤ t + (n : Int) := by omega
    have h4 : t + (n : Int) < n := by omega
    clear h2
    go_wp2
    go_ret
    exact ⟨by rw [← HE.out]; rfl, rfl⟩
  · have t0 : decide (t < 0) = false := by simp; omega
    have HE := Lib.hid (show t = ((rnd k n : Nat) : Int) from h2.trans HR.out.symm)
    have h4 : t < n := by omega
    clear h2
    go_wp2
    go_ret
    exact ⟨by rw [← HE.out]; rfl, rfl⟩
end Go.Proofs.Ytpikmcapnmdmbaa
