/-
  Layer 22: both Betters of any entry; what was lent is as it was.
-/
import Derived.Test.YtpikmcapnmdmbaaWu
import Derived.Test.YtpikmcapnmdmbaaWp
namespace Go.Proofs.Ytpikmcapnmdmbaa
open Go.RowKit Go.K Go.Maps
set_option linter.unusedVariables false
set_option linter.unusedSimpArgs false
/-- Would entry e rather have x than y? -/
def betV (is : List Int) (ws : List (List Int)) (m : Nat) (e x y : Int) : Bool :=
  MeetV is m && (decide (0 ≤ e) && (decide (e < (is.length : Int)) && decide (plc is (ord is (ws.getD e.toNat []) e.toNat) x < plc is (ord is (ws.getD e.toNat []) e.toNat) y)))
theorem betV_in {is : List Int} {ws : List (List Int)} {m i : Nat} {x y : Int} (hm : MeetP is m) (hi : i < is.length) : betV is ws m (i : Int) x y = decide (plc is (ord is (ws.getD i []) i) x < plc is (ord is (ws.getD i []) i) y) := by
  unfold betV
  rw [(meetV_iff is m).2 hm, decide_eq_true (show (0 : Int) ≤ (i : Int) by omega), decide_eq_true (show (i : Int) < (is.length : Int) by omega)]
  simp
theorem betV_none {is : List Int} {ws : List (List Int)} {m : Nat} {e x y : Int} (h : ¬ MeetP is m ∨ e < 0 ∨ (is.length : Int) ≤ e) : betV is ws m e x y = false := by
  unfold betV
  rcases h with h | h | h
  · have : MeetV is m = false := by
      cases hv : MeetV is m
      · rfl
      · exact absurd ((meetV_iff is m).1 hv) h
    rw [this]; rfl
  · rw [decide_eq_false (show ¬ (0 : Int) ≤ e by omega)]; simp
  · rw [decide_eq_false (show ¬ e < (is.length : Int) by omega)]; simp
set_option maxRecDepth 100000 in
set_option maxHeartbeats 1000000 in
theorem better_gen (ia : Option Addr) (ic : Nat) (is : List Int) (wa : Option Addr) (wc : Nat) (ws : List Wl) (e x y : Int) (w : World) (hl : is.length ≤ 1000000) (hs : Sl w ia (vI is)) (hws : WsOk w wa ws) :
    Calls Try.prog 16 #[.slice ia is.length ic, .slice wa ws.length wc, .int .i64 e, .int .i64 x, .int .i64 y] w fun r w' => r = .returned (.bool (betV is (ws.map Wl.l) ws.length e x y)) ∧ Below w.heap.size w w' := by
  have K15 := Lib.hid (meet_any ia ic is wa wc ws.length w (by omega) hs)
  by_cases hm : MeetP is ws.length
  · by_cases h0 : e < 0
    · rw [betV_none (.inr (.inl h0))]
      rw [(meetV_iff is ws.length).2 hm] at K15
      have t1 : decide (e < 0) = true := decide_eq_true h0
      clear hs hws hm h0
      go_enter Try.func16, Try.ntmps16
      go_wp2_with (go_at_call 15; refine K15.out.mono ?_; rintro r0 w1 ⟨rfl, rfl⟩)
      go_ret
      exact ⟨rfl, Below.refl _ _⟩
    · by_cases h1 : (is.length : Int) ≤ e
      · rw [betV_none (.inr (.inr h1))]
        rw [(meetV_iff is ws.length).2 hm] at K15
        have t1 : decide (e < 0) = false := decide_eq_false h0
        have t2 : decide (e ≥ (is.length : Int)) = true := decide_eq_true h1
        clear hs hws hm h0 h1
        go_enter Try.func16, Try.ntmps16
        go_wp2_with (go_at_call 15; refine K15.out.mono ?_; rintro r0 w1 ⟨rfl, rfl⟩)
        go_ret
        exact ⟨rfl, Below.refl _ _⟩
      · obtain ⟨i, rfl⟩ : ∃ i : Nat, e = (i : Int) := ⟨e.toNat, by omega⟩
        have hil : i < is.length := by omega
        have hiw : i < ws.length := by rw [← hm.1]; exact hil
        rw [betV_in hm hil, ws_getD ws i hiw]
        exact better_any ia ic is wa wc ws i x y w hl hs hws hiw hil hm
  · rw [betV_none (.inl hm)]
    rw [show MeetV is ws.length = false from by
      cases h : MeetV is ws.length
      · rfl
      · exact absurd ((meetV_iff _ _).1 h) hm] at K15
    clear hs hws hm
    go_enter Try.func16, Try.ntmps16
    go_wp2_with (go_at_call 15; refine K15.out.mono ?_; rintro r0 w1 ⟨rfl, rfl⟩)
    go_ret
    exact ⟨rfl, Below.refl _ _⟩
set_option maxRecDepth 100000 in
set_option maxHeartbeats 1000000 in
theorem told_gen (ia : Option Addr) (ic : Nat) (is : List Int) (wa : Option Addr) (wc : Nat) (ws : List Wl) (e x y : Int) (w : World) (hl : is.length ≤ 1000000) (hs : Sl w ia (vI is)) (hf : Wf is) (hws : WsOk w wa ws) :
    Calls Try.prog 20 #[.slice ia is.length ic, .slice wa ws.length wc, .int .i64 e, .int .i64 x, .int .i64 y] w fun r w' => r = .returned (.bool (betV is (ws.map Wl.l) ws.length e x y)) ∧ Below w.heap.size w w' := by
  have K45 := Lib.hid (brought_any ia ic is wa wc ws.length w (by omega) hs hf)
  by_cases hm : MeetP is ws.length
  · by_cases h0 : e < 0
    · rw [betV_none (.inr (.inl h0))]
      have t1 : decide (e < 0) = true := decide_eq_true h0
      have HM := Lib.hid hm
      clear hs hws hm h0
      go_enter Try.func20, Try.ntmps20
      go_wp2_with fail
      refine K45.out.mono ?_
      rintro r w2 ⟨⟨rfl, hno⟩ | ⟨gb, rfl, hM, hR, hge⟩, hb⟩
      · exact absurd HM.out hno
      · have hnil := eql66 (some gb)
        have HB := Lib.hid hb
        clear hb hM hR hge
        go_wp2
        go_ret
        exact ⟨rfl, HB.out⟩
    · by_cases h1 : (is.length : Int) ≤ e
      · rw [betV_none (.inr (.inr h1))]
        have t1 : decide (e < 0) = false := decide_eq_false h0
        have t2 : decide (e ≥ (is.length : Int)) = true := decide_eq_true h1
        have HM := Lib.hid hm
        clear hs hws hm h0 h1
        go_enter Try.func20, Try.ntmps20
        go_wp2_with fail
        refine K45.out.mono ?_
        rintro r w2 ⟨⟨rfl, hno⟩ | ⟨gb, rfl, hM, hR, hge⟩, hb⟩
        · exact absurd HM.out hno
        · have hnil := eql66 (some gb)
          have HB := Lib.hid hb
          clear hb hM hR hge
          go_wp2
          go_ret
          exact ⟨rfl, HB.out⟩
      · obtain ⟨i, rfl⟩ : ∃ i : Nat, e = (i : Int) := ⟨e.toNat, by omega⟩
        have hil : i < is.length := by omega
        have hiw : i < ws.length := by rw [← hm.1]; exact hil
        have h := told_any ia ic is wa wc ws i x y w hl hs hf hws hiw hil hm
        rw [bscan_eq hm.2.1 hil x y ws[i].l [] (fun j hj => by cases hj) (fun j hj => by cases hj), show ordAcc is i ws[i].l [] ++ [i] = ord is ws[i].l i from rfl] at h
        rw [betV_in hm hil, ws_getD ws i hiw]
        exact h
  · rw [betV_none (.inl hm)]
    have HM := Lib.hid hm
    clear hs hws hm
    go_enter Try.func20, Try.ntmps20
    go_wp2_with fail
    refine K45.out.mono ?_
    rintro r w2 ⟨⟨rfl, hno⟩ | ⟨gb, rfl, hM, hR, hge⟩, hb⟩
    · have hnil := eql66 none
      have HB := Lib.hid hb
      clear hb hno
      go_wp2
      go_ret
      exact ⟨rfl, HB.out⟩
    · exact absurd hM HM.out
set_option maxRecDepth 100000 in
set_option maxHeartbeats 1000000 in
theorem kept_true (B : Nat) (a b : Option Addr) (c d : Nat) (l : List Int) (w : World) (h : LentL B w ⟨a, c, l⟩) (hb : Sl w b (vI l)) :
    Calls Try.prog 23 #[.slice a l.length c, .slice b l.length d] w fun e w' => e = .returned (.bool true) ∧ ∃ m, w' = w.drewN m := by
  have hmx : l.length ≤ 1000000 := h.mx
  obtain ⟨g, hga, _, _, hcl⟩ := h.at'
  have hga' : a = some ⟨g, 0, none⟩ := hga
  have hcl' : l.length + 40 ≤ c := hcl
  subst hga'
  have K21 := Lib.hid (same_true (some ⟨g, 0, none⟩) b c d l w (by omega) h.ok.sl hb)
  have HR := Lib.hid h.row
  have HMK := Lib.hid (show ∀ k, k < 40 → w.cell? ⟨g, l.length + k, none⟩ = some (.int .i64 (-771 - (k : Int))) from fun k hk => by
    have h1 := owns_cell HR.out (l.length + k) (vI_get (l ++ mks 40) (l.length + k) (by rw [List.length_append, mks_length]; omega))
    rw [h1, List.getElem_append_right (by omega)]
    simp [mks])
  have hr : ∀ W, (Instr.slice 22 (.slice (some ⟨g, 0, none⟩) l.length c) none (some (.int .i64 ((l.length : Int) + 40))) none).run Try.prog W = .ok (.slice (some ⟨g, 0, none⟩) (l.length + 40) c) W := fun W =>
    run_slice_hi (P := Try.prog) Try.underlying22 sz3 (some ⟨g, 0, none⟩) ⟨g, 0, rfl⟩ l.length c .i64 ((l.length : Int) + 40) (l.length + 40) (by omega) (by omega) W
  clear h hb hga hcl HR
  go_enter Try.func23, Try.ntmps23
  go_wp2_with fail
  refine K21.out.mono ?_
  rintro r0 w1 ⟨rfl, m0, hm0⟩
  have HM0 := Lib.hid hm0
  clear hm0 K21
  go_wp2_with ((with_reducible refine at_slice_op ?_); refine wpList_slice_hi Try.underlying22 (.slice (some ⟨g, 0, none⟩) l.length c) (.int .i64 ((l.length : Int) + 40)) _ ?_ ?_ hr ?_; exact rfl; exact rfl)
  go_loopw [6] (fun i wr => ∃ k m : Nat, k ≤ 40 ∧ i = .int .i64 k ∧ wr = w.drewN m) (fun i _ => 40 - (intOf i).toNat)
  case atStart => exact ⟨0, m0, by omega, rfl, HM0.out⟩
  case round =>
    clear hr
    obtain ⟨k, m, hk, rfl, hwr⟩ := hrel
    have HWR := Lib.hid hwr
    clear hwr
    by_cases hlt : k < 40
    · have t0 : decide ((k : Int) < 40) = true := by simp; omega
      have z0 : wr.cell? ⟨g, l.length + k, none⟩ = some (.int .i64 (-771 - (k : Int))) := by rw [HWR.out]; exact HMK.out k hlt
      have i0 : (l.length : Int) + (k : Int) < (((l.length + 40 : Nat)) : Int) := by omega
      have hne : ((-771 - (k : Int)) != (-771 - (k : Int))) = false := by simp
      go_wp2
      go_roundw
      case rel => exact ⟨k + 1, m, by omega, by go_num, HWR.out⟩
      case measure => simp [intOf]; omega
    · have t0 : decide ((k : Int) < 40) = false := by simp; omega
      go_wp2
      go_ret
      exact ⟨rfl, m, HWR.out⟩
end Go.Proofs.Ytpikmcapnmdmbaa
