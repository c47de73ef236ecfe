/-
  Layer 22: a list, a list of lists that came in as a parameter, opened.
-/
import Derived.Test.YtpikmcapnmdmbaaYa
namespace Go.Proofs.Ytpikmcapnmdmbaa
open Go.ChangeShapes Go.WideShapes Go.ChangeAt Go.RowKit Go.K
set_option linter.unusedVariables false
set_option linter.unusedSimpArgs false
theorem open_wl {H : Type} {enc : TypeId × Value → H} {W : World} {r : Reach} {b0 : Nat} {v : Value} {d : DataW H} {p : List MemPlace} (hv : Value.okWide Try.prog W r b0 22 v)
    (h : DataW.Trod enc Try.prog W 0 (fun _ => true) true 22 v d p)
    {ts : List TypeId} {ds : List (DataW H)} (hsz : (DataW.weightsEach Try.prog ts ds).all (· ≤ reachBytes) = true) {j : Nat} (hj : ts[j]? = some 22) (hd : ds[j]? = some d) :
    ∃ c : Wl, v = c.v ∧ WlOk W c := by
  obtain ⟨a, len, cap, rfl⟩ := okWide_slice Try.underlying22 hv
  obtain ⟨fuel, h⟩ := h
  have h' : DataW.trod enc Try.prog W 0 (fun _ => true) true fuel 22 [.slice a len cap] = some (d, p) := h
  exact wl_of_trod h' (fun q hq => by
    have h9 := List.all_eq_true.1 hsz q (DataW.weights_mem_each hj hd q hq)
    simpa using h9)
theorem open_wls {H : Type} {enc : TypeId × Value → H} {W : World} {r : Reach} {b0 : Nat} {v : Value} {d : DataW H} {p : List MemPlace} (hv : Value.okWide Try.prog W r b0 23 v)
    (h : DataW.Trod enc Try.prog W 0 (fun _ => true) true 23 v d p)
    {ts : List TypeId} {ds : List (DataW H)} (hsz : (DataW.weightsEach Try.prog ts ds).all (· ≤ reachBytes) = true) {j : Nat} (hj : ts[j]? = some 23) (hd : ds[j]? = some d) :
    ∃ (a : Option Addr) (c : Nat) (ws : List Wl), v = .slice a ws.length c ∧ WsOk W a ws ∧ ws.length ≤ 17592186043904 ∧ (a = none → ws.length = 0 ∧ c = 0) := by
  obtain ⟨a, len, cap, rfl⟩ := okWide_slice Try.underlying23 hv
  obtain ⟨fuel, h⟩ := h
  have h' : DataW.trod enc Try.prog W 0 (fun _ => true) true fuel 23 [.slice a len cap] = some (d, p) := h
  exact wls_of_trod h' (fun q hq => by
    have h9 := List.all_eq_true.1 hsz q (DataW.weights_mem_each hj hd q hq)
    simpa using h9)
end Go.Proofs.Ytpikmcapnmdmbaa
