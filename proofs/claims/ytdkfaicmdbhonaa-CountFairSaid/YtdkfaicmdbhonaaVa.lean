/-
  Layer 1: the document's numbers: a number without its sign, written over itself.
-/
import Derived.Test.YtdkfaicmdbhonaaWw
namespace Go.Proofs.Ytdkfaicmdbhonaa
open Go.RowKit Go.K Go.Words
set_option linter.unusedVariables false
set_option linter.unusedSimpArgs false
set_option maxRecDepth 100000 in
set_option maxHeartbeats 1000000 in
theorem abs_self (g : Nat) (z : Int) (w : World) (hz : IntAt w g z) (bz : z.natAbs < pw 900) :
    Calls Try.prog 42 #[.pointer (some ⟨g, 0, none⟩), .pointer (some ⟨g, 0, none⟩)] w fun e w' => e = .returned (.pointer (some ⟨g, 0, none⟩)) ∧ w.grownBy w' (some g) ∧ IntAt w' g (z.natAbs : Int) := by
  have HI := Lib.hid hz.isInt
  have HZ := Lib.hid hz
  obtain ⟨b1, a1, c1, l1, o1, e1, v1⟩ := hz.open bz
  have y0 := o1.c0
  have y1 := o1.c1
  have HO := Lib.hid o1
  have HV := Lib.hid v1
  have HS := Lib.hid (signed_any g false a1 l1.length c1 w HI.out)
  clear hz o1 e1 v1
  go_enter Try.func42, Try.ntmps42
  go_wp2_with fail
  refine HS.out.mono ?_
  rintro e w1 ⟨rfl, hgr, hrow⟩
  have G1 := Lib.hid hgr
  have G2 := Lib.hid hrow
  clear hgr hrow
  go_wp2
  go_ret
  refine ⟨rfl, G1.out, ⟨false, a1, c1, l1, by simpa using G2.out, ?_, HO.out.nm, HO.out.le, by rw [if_neg (by decide), HV.out], fun h => by cases h⟩⟩
  exact sl_awayInt HI.out G1.out HO.out.sl
end Go.Proofs.Ytdkfaicmdbhonaa
