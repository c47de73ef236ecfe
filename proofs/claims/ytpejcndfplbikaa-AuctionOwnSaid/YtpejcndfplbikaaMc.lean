/-
  Layer 21: the opening of a list of entries.
-/
import Derived.Test.YtpejcndfplbikaaVa
namespace Go.Proofs.Ytpejcndfplbikaa
open Go.ChangeShapes Go.WideShapes Go.ChangeAt Go.RowKit Go.K
set_option linter.unusedVariables false
set_option linter.unusedSimpArgs false
/-- A list of entries, as it lies. -/
structure Ens where
  a : Option Addr
  c : Nat
  es : List Ent
def Ens.v (x : Ens) : Value := .slice x.a x.es.length x.c
structure EnsOk (W : World) (x : Ens) : Prop where
  sl : Sl W x.a (eFlat x.es)
  ents : ∀ e ∈ x.es, EntOk W e
  le : x.es.length ≤ x.c
  mx : x.es.length ≤ 2513169434843
  nil : x.a = none → x.es.length = 0 ∧ x.c = 0
theorem EnsOk.kept {W W' : World} {x : Ens} (h : EnsOk W x) (hb : Below W.heap.size W W') : EnsOk W' x := ⟨h.sl.kept hb, fun e he => (h.ents e he).kept hb, h.le, h.mx, h.nil⟩
theorem open_ens {H : Type} {enc : TypeId × Value → H} {W : World} {r : Reach} {b0 : Nat} {v : Value} {d : DataW H} {p : List MemPlace} (hv : Value.okWide Try.prog W r b0 23 v)
    (h : DataW.Trod enc Try.prog W 0 (fun _ => true) true 23 v d p)
    {ts : List TypeId} {ds : List (DataW H)} (hsz : (DataW.weightsEach Try.prog ts ds).all (· ≤ reachBytes) = true) {j : Nat} (hj : ts[j]? = some 23) (hd : ds[j]? = some d) :
    ∃ x : Ens, v = x.v ∧ EnsOk W x := by
  obtain ⟨a, len, cap, rfl⟩ := okWide_slice Try.underlying23 hv
  obtain ⟨fuel, h⟩ := h
  have h' : DataW.trod enc Try.prog W 0 (fun _ => true) true fuel 23 [.slice a len cap] = some (d, p) := h
  obtain ⟨ea, ec, es, h1, h2, h3, h4, h5, h6⟩ := ents_of_trod h' (fun q hq => by
    have h9 := List.all_eq_true.1 hsz q (DataW.weights_mem_each hj hd q hq)
    simpa using h9)
  exact ⟨⟨ea, ec, es⟩, h1, ⟨h2, h3, h4, h5, h6⟩⟩
end Go.Proofs.Ytpejcndfplbikaa
