/-
  Layer 22: the same lists; the document's example.
-/
import Derived.Test.YtpikmcapnmdmbaaPc
import Derived.Test.YtpikmcapnmdmbaaWf
namespace Go.Proofs.Ytpikmcapnmdmbaa
open Go.RowKit Go.K Go.Maps
set_option linter.unusedVariables false
set_option linter.unusedSimpArgs false
theorem drewN_add (w : World) (a b : Nat) : (w.drewN a).drewN b = w.drewN (a + b) := by
  show World.mk _ _ _ _ _ = World.mk _ _ _ _ _
  congr 1
  exact Nat.add_assoc _ _ _
theorem WsOk.drewN {w : World} {a : Option Addr} {ms : List Wl} (h : WsOk w a ms) (n : Nat) : WsOk (w.drewN n) a ms :=
  ⟨h.sl, fun x hx => ⟨(h.each x hx).sl, (h.each x hx).le, (h.each x hx).mx, (h.each x hx).nil, (h.each x hx).wf⟩⟩
set_option maxRecDepth 100000 in
theorem same_true (a b : Option Addr) (c d : Nat) (l : List Int) (w : World) (hl : l.length ≤ 17592186043904) (ha : Sl w a (vI l)) (hb : Sl w b (vI l)) :
    Calls Try.prog 21 #[.slice a l.length c, .slice b l.length d] w fun e w' => e = .returned (.bool true) ∧ ∃ m, w' = w.drewN m := by
  have HA := Lib.hid ha
  have HB := Lib.hid hb
  have hb0 : ((l.length : Int) != (l.length : Int)) = false := by simp
  clear ha hb
  go_enter Try.func21, Try.ntmps21
  go_wp2
  go_loopw [5] (fun i wr => ∃ k m : Nat, k ≤ l.length ∧ i = .int .i64 k ∧ wr = w.drewN m) (fun i _ => l.length - (intOf i).toNat)
  case atStart => exact ⟨0, 0, by omega, rfl, rfl⟩
  case round =>
    obtain ⟨k, m, hk, rfl, hwr⟩ := hrel
    have HWR := Lib.hid hwr
    have HA := Lib.hid (show Sl wr a (vI l) by rw [hwr]; exact HA.out)
    have HB := Lib.hid (show Sl wr b (vI l) by rw [hwr]; exact HB.out)
    clear hwr
    by_cases hlt : k < l.length
    · have t0 : decide ((k : Int) < (l.length : Int)) = true := by simp; omega
      obtain ⟨b1, o1, rfl, x0⟩ := int_at HA.out k hlt
      obtain ⟨b2, o2, rfl, y0⟩ := int_at HB.out k hlt
      have i1 : (k : Int) < (l.length : Int) := by omega
      generalize l[k] = g at *
      have hne : (g != g) = false := by simp
      go_wp2
      go_quiet (fail)
      go_wp2
      go_roundw
      case rel => exact ⟨k + 1, m + nq, by omega, by go_num, by rw [HWR.out, drewN_add]⟩
      case measure => simp [intOf]; omega
    · have t0 : decide ((k : Int) < (l.length : Int)) = false := by simp; omega
      go_wp2
      go_ret
      exact ⟨rfl, m, HWR.out⟩
set_option maxRecDepth 100000 in
theorem sameAll_true (a b : Option Addr) (c d : Nat) (ms ns : List Wl) (w : World) (hl : ms.length ≤ 17592186043904) (hm : WsOk w a ms) (hn : WsOk w b ns) (he : ms.map Wl.l = ns.map Wl.l) :
    Calls Try.prog 22 #[.slice a ms.length c, .slice b ns.length d] w fun e w' => e = .returned (.bool true) ∧ ∃ m, w' = w.drewN m := by
  have hlen : ns.length = ms.length := by have := congrArg List.length he; simpa using this.symm
  rw [hlen]
  have HM := Lib.hid hm
  have HN := Lib.hid hn
  have HE := Lib.hid he
  have HL := Lib.hid hlen
  have hb0 : ((ms.length : Int) != (ms.length : Int)) = false := by simp
  clear hm hn he hlen
  go_enter Try.func22, Try.ntmps22
  go_wp2
  go_loopw [5, 6] (fun i x wr => ∃ k m : Nat, k ≤ ms.length ∧ i = .int .i64 k ∧ wr = w.drewN m) (fun i _ _ => ms.length - (intOf i).toNat)
  case atStart => exact ⟨0, 0, by omega, rfl, rfl⟩
  case round =>
    obtain ⟨k, m, hk, rfl, hwr⟩ := hrel
    have HWR := Lib.hid hwr
    have HMM := Lib.hid (show WsOk wr a ms by rw [hwr]; exact HM.out.drewN m)
    have HNN := Lib.hid (show WsOk wr b ns by rw [hwr]; exact HN.out.drewN m)
    clear hwr
    by_cases hlt : k < ms.length
    · have t0 : decide ((k : Int) < (ms.length : Int)) = true := by simp; omega
      have hlt2 : k < ns.length := by rw [HL.out]; exact hlt
      obtain ⟨b1, o1, rfl, x0⟩ := HMM.out.at' k hlt
      obtain ⟨b2, o2, rfl, y0⟩ := HNN.out.at' k hlt2
      have i1 : (k : Int) < (ms.length : Int) := by omega
      have HX := Lib.hid (HMM.out.each _ (List.getElem_mem hlt))
      have HY := Lib.hid (HNN.out.each _ (List.getElem_mem hlt2))
      have HXY := Lib.hid (show ms[k].l = ns[k].l by
        have h1 : (ms.map Wl.l)[k]? = some ms[k].l := by rw [List.getElem?_map, List.getElem?_eq_getElem hlt]; rfl
        have h2 : (ns.map Wl.l)[k]? = some ns[k].l := by rw [List.getElem?_map, List.getElem?_eq_getElem hlt2]; rfl
        rw [HE.out, h2] at h1
        exact (Option.some.inj h1).symm)
      generalize ms[k] = x at x0 HX HXY
      generalize ns[k] = y at y0 HY HXY
      obtain ⟨xa, xc, xl⟩ := x
      obtain ⟨ya, yc, yl⟩ := y
      simp only at HXY x0 y0
      have e := HXY.out
      subst e
      have K21 := Lib.hid (fun n => (same_true xa ya xc yc xl (wr.drewN n) HX.out.mx HX.out.sl HY.out.sl).mono (fun _ _ h => And.intro h.1 (h.2.elim (fun q hq => (⟨n + q, hq.trans (drewN_add wr n q)⟩ : ∃ z, _ = wr.drewN z)))))
      go_wp2
      go_quiet ((go_at_call 21; exact K21.out _))
      go_wp2
      go_roundw
      case rel => exact ⟨k + 1, m + nq, by omega, by go_num, by rw [HWR.out, drewN_add]⟩
      case measure => simp [intOf]; omega
    · have t0 : decide ((k : Int) < (ms.length : Int)) = false := by simp; omega
      go_wp2
      go_ret
      exact ⟨rfl, m, HWR.out⟩
end Go.Proofs.Ytpikmcapnmdmbaa
