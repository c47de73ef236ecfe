/-
  Layer 22: barter.Better, of an entry of a meet.
-/
import Derived.Test.YtpikmcapnmdmbaaPe
import Derived.Test.YtpikmcapnmdmbaaWk
namespace Go.Proofs.Ytpikmcapnmdmbaa
open Go.RowKit Go.K Go.Maps
set_option linter.unusedVariables false
set_option linter.unusedSimpArgs false
theorem find_none_of {is : List Int} {w : Int} (h : w ∉ is) : (is.findIdx? (· == w)).isNone = true := by
  rw [List.findIdx?_eq_none_iff.2 (fun j hj => by have e : j ≠ w := fun e => h (e ▸ hj); simpa using e)]; rfl
theorem find_some_of {is : List Int} {w : Int} (h : w ∈ is) : (is.findIdx? (· == w)).isNone = false := by
  cases hf : is.findIdx? (· == w) with
  | none => exact absurd h (fun hm => by have := List.findIdx?_eq_none_iff.1 hf w hm; simp at this)
  | some k => rfl
set_option maxRecDepth 100000 in
set_option maxHeartbeats 2000000 in
theorem told_any (ia : Option Addr) (ic : Nat) (is : List Int) (wa : Option Addr) (wc : Nat) (ws : List Wl) (i : Nat) (x y : Int) (w : World) (hl : is.length ≤ 1000000) (hs : Sl w ia (vI is)) (hf : Wf is) (hws : WsOk w wa ws) (hi : i < ws.length) (hil : i < is.length) (hm : MeetP is ws.length) :
    Calls Try.prog 20 #[.slice ia is.length ic, .slice wa ws.length wc, .int .i64 i, .int .i64 x, .int .i64 y] w fun r w' => r = .returned (.bool (bscan is (is.getD i 0) x y ws[i].l)) ∧ Below w.heap.size w w' := by
  have K45 := Lib.hid (brought_any ia ic is wa wc ws.length w (by omega) hs hf)
  have HM := Lib.hid hm
  have t1 : decide ((i : Int) < 0) = false := decide_eq_false (by omega)
  have t2 : decide ((i : Int) ≥ (is.length : Int)) = false := decide_eq_false (by omega)
  have t22 : decide (is.length ≤ i) = false := decide_eq_false (by omega)
  have i0 : (i : Int) < (ws.length : Int) := by omega
  have i1 : (i : Int) < (is.length : Int) := by omega
  have HX := Lib.hid (show WlOk w ws[i] from hws.each _ (List.getElem_mem hi))
  have HZ := Lib.hid (fun V (h : Below w.heap.size w V) => (hws.kept h).at' i hi)
  have HI := Lib.hid (fun V (h : Below w.heap.size w V) => int_at (hs.below h hs.lt) i hil)
  have HG := Lib.hid (show is[i] = is.getD i 0 by rw [List.getD_eq_getElem?_getD, List.getElem?_eq_getElem hil]; rfl)
  rw [HG.out] at HI
  clear HG
  generalize ws[i] = xx at HX HZ ⊢
  obtain ⟨xa, xc, xl⟩ := xx
  simp only at HZ ⊢
  have hmx : xl.length ≤ 17592186043904 := HX.out.mx
  generalize is.getD i 0 = own at HI ⊢
  clear hs hws hm hf
  go_enter Try.func20, Try.ntmps20
  go_wp2_with fail
  refine K45.out.mono ?_
  rintro r w2 ⟨⟨rfl, hno⟩ | ⟨gb, rfl, hM, hR, hge⟩, hb⟩
  · exact absurd HM.out hno
  · have HB := Lib.hid hb
    have HR := Lib.hid hR
    have hnil := eql66 (some gb)
    obtain ⟨wb, wo, hwa, z1⟩ := HZ.out w2 hb
    obtain ⟨ib, io, hia, z2⟩ := HI.out w2 hb
    subst hwa hia
    clear hb hM hR hge K45
    go_wp2
    clear hnil t1 t2 t22
    go_loopw [10, 13, 14, 15, 36] (fun x10 x13 x14 x15 k wr => ∃ q : Nat, q ≤ xl.length ∧ k = .int .i64 q ∧ bscan is own x y (xl.drop q) = bscan is own x y xl ∧ w2 = wr) (fun _ _ _ _ k _ => xl.length - (intOf k).toNat)
    case atStart => exact ⟨0, by omega, rfl, rfl, rfl⟩
    case round =>
      obtain ⟨q, hq, rfl, hn, rfl⟩ := hrel
      have HN := Lib.hid hn
      clear hn
      by_cases hlt : q < xl.length
      · have t0 : decide ((q : Int) < (xl.length : Int)) = true := by simp; omega
        have i2 : (q : Int) < (xl.length : Int) := by omega
        obtain ⟨xb, xo, rfl, z3⟩ := int_at (HX.out.sl.below HB.out HX.out.sl.lt) q hlt
        have HWX := Lib.hid (HX.out.wf xl[q] (List.getElem_mem hlt))
        have HD := Lib.hid (List.drop_eq_getElem_cons hlt)
        generalize xl[q] = v at z3 HWX HD
        rw [HD.out, bscan] at HN
        have hkey := keyOf_int_mk Try.underlying3 HWX.out
        obtain ⟨Dm, ho, hDm⟩ := HR.out
        have HOM := Lib.hid ho
        have HDM := Lib.hid hDm
        clear ho hDm
        by_cases hin : v ∈ is
        · have h1 : Maps.has Dm (.int .i64 v) = true := by rw [HDM.out.has, List.take_length]; simpa using hin
          rw [find_some_of hin, if_neg (by decide)] at HN
          clear hin HD
          by_cases hx : v = x
          · subst hx
            rw [if_pos (.inl rfl)] at HN
            have t3 : (v == v) = true := by simp
            by_cases hy : v = y
            · subst hy
              have t5 : (v != v) = false := by simp
              rw [t3, t5] at HN
              go_wp2_with (first
                | (at_lookup; refine wpList_lookup_own_ok_int _ rfl _ _ 66 rfl 3 3 .i64 law3 Try.underlying66 Try.underlying3 (zero3 _) gb is.length _ rfl HOM.out _ _ rfl hkey ?_; intro c hat hwc)
                | fail)
              go_ret
              exact ⟨by rw [← HN.out]; rfl, HB.out⟩
            · have t4 : (v == y) = false := by simpa using hy
              have t5 : (v != y) = true := by simpa using hy
              rw [t3, t5] at HN
              clear hy
              go_wp2_with (first
                | (at_lookup; refine wpList_lookup_own_ok_int _ rfl _ _ 66 rfl 3 3 .i64 law3 Try.underlying66 Try.underlying3 (zero3 _) gb is.length _ rfl HOM.out _ _ rfl hkey ?_; intro c hat hwc)
                | fail)
              go_ret
              exact ⟨by rw [← HN.out]; rfl, HB.out⟩
          · have t3 : (v == x) = false := by simpa using hx
            by_cases hy : v = y
            · subst hy
              rw [if_pos (.inr rfl)] at HN
              have t4 : (v == v) = true := by simp
              rw [t3] at HN
              clear hx
              go_wp2_with (first
                | (at_lookup; refine wpList_lookup_own_ok_int _ rfl _ _ 66 rfl 3 3 .i64 law3 Try.underlying66 Try.underlying3 (zero3 _) gb is.length _ rfl HOM.out _ _ rfl hkey ?_; intro c hat hwc)
                | fail)
              go_ret
              exact ⟨by rw [← HN.out]; rfl, HB.out⟩
            · have t4 : (v == y) = false := by simpa using hy
              rw [if_neg (fun h => h.elim hx hy)] at HN
              clear hx hy
              by_cases ho : v = own
              · rw [if_pos ho] at HN
                have t5 : (v == own) = true := by simpa using ho
                clear ho
                go_wp2_with (first
                  | (at_lookup; refine wpList_lookup_own_ok_int _ rfl _ _ 66 rfl 3 3 .i64 law3 Try.underlying66 Try.underlying3 (zero3 _) gb is.length _ rfl HOM.out _ _ rfl hkey ?_; intro c hat hwc)
                  | fail)
                go_ret
                exact ⟨by rw [← HN.out]; rfl, HB.out⟩
              · rw [if_neg ho] at HN
                have t5 : (v == own) = false := by simpa using ho
                clear ho
                go_wp2_with (first
                  | (at_lookup; refine wpList_lookup_own_ok_int _ rfl _ _ 66 rfl 3 3 .i64 law3 Try.underlying66 Try.underlying3 (zero3 _) gb is.length _ rfl HOM.out _ _ rfl hkey ?_; intro c hat hwc)
                  | fail)
                go_roundw
                case rel =>
                  exact ⟨q + 1, by omega, by go_num, HN.out, by trivial⟩
                case measure => simp [intOf]; omega
        · have h1 : Maps.has Dm (.int .i64 v) = false := by rw [HDM.out.has, List.take_length]; simpa using hin
          rw [find_none_of hin, if_pos rfl] at HN
          clear hin HD
          go_wp2_with (first
            | (at_lookup; refine wpList_lookup_own_ok_int _ rfl _ _ 66 rfl 3 3 .i64 law3 Try.underlying66 Try.underlying3 (zero3 _) gb is.length _ rfl HOM.out _ _ rfl hkey ?_; intro c hat hwc)
            | fail)
          go_roundw
          case rel => exact ⟨q + 1, by omega, by go_num, HN.out, by trivial⟩
          case measure => simp [intOf]; omega
      · have t0 : decide ((q : Int) < (xl.length : Int)) = false := by simp; omega
        rw [List.drop_eq_nil_of_le (by omega), bscan] at HN
        by_cases hx : x = own
        · have t3 : (x == own) = true := by simpa using hx
          rw [t3] at HN
          clear hx
          go_wp2
          go_ret
          exact ⟨by rw [← HN.out]; rfl, HB.out⟩
        · have t3 : (x == own) = false := by simpa using hx
          rw [t3] at HN
          clear hx
          go_wp2
          go_ret
          exact ⟨by rw [← HN.out]; rfl, HB.out⟩
end Go.Proofs.Ytpikmcapnmdmbaa
