/-
  Layer 1: a list of numbers of 64 bits that came in, opened.
-/
import Derived.Test.YtdkfaicmdbhonaaWg
import Derived.Test.YtdkfaicmdbhonaaGen
namespace Go.Proofs.Ytdkfaicmdbhonaa
open Go.ChangeShapes Go.WideShapes Go.ChangeAt Go.RowKit Go.K
set_option linter.unusedVariables false
theorem open_u64s {H : Type} {enc : TypeId × Value → H} {W : World} {a : Option Addr} {len cap : Nat} {d : DataW H} {p : List MemPlace}
    (h : DataW.Trod enc Try.prog W 0 (fun _ => true) true 22 (.slice a len cap) d p)
    {ts : List TypeId} {ds : List (DataW H)} (hsz : (DataW.weightsEach Try.prog ts ds).all (· ≤ reachBytes) = true) {j : Nat} (hj : ts[j]? = some 22) (hd : ds[j]? = some d) :
    ∃ l : List (BitVec 64), len = l.length ∧ Sl W a (vQ l) ∧ l.length ≤ cap ∧ cap ≤ 17592186043904 ∧ (a = none → l.length = 0 ∧ cap = 0) := by
  obtain ⟨fuel, hf⟩ := h
  have hby : Try.prog.bytesOf 24 = 8 := by kernel_rfl
  rcases open_ints Try.underlying22 Try.underlying24 (by kernel_rfl) hf with ⟨hcs, hx⟩ | ⟨x, len', cap', zs, hcs, _, hl, hm, hz, hx, hcell, hwz⟩
  · simp [Value.cells] at hcs
    obtain ⟨rfl, rfl, rfl⟩ := hcs
    exact ⟨[], rfl, Sl.nil _ _, Nat.le_refl _, by omega, fun _ => ⟨rfl, rfl⟩⟩
  · simp [Value.cells] at hcs
    obtain ⟨rfl, rfl, rfl⟩ := hcs
    simp only [Prod.mk.injEq] at hx
    obtain ⟨rfl, rfl⟩ := hx
    simp only [if_true] at hz
    have hr := sized_slice hsz hj hd Try.underlying22
    rw [hby] at hr
    simp only [lits, List.length_map, List.length_take, List.length_drop, reachBytes] at hr
    have hlen : ((zs.take len).map (BitVec.ofInt 64)).length = len := by simp; omega
    refine ⟨(zs.take len).map (BitVec.ofInt 64), hlen.symm, ?_, by omega, by omega, fun h => by cases h⟩
    intro hne
    have h0 : 0 < len := by
      rcases Nat.eq_zero_or_pos len with h' | h'
      · subst h'; exact absurd (by simp [vQ]) hne
      · exact h'
    obtain ⟨b, off, spot⟩ := x
    have hspot : spot = none := by simpa [Addr.add] using World.cell?_spot (hcell 0 (by omega))
    subst hspot
    refine ⟨b, off, rfl, fun i hi => ?_⟩
    rw [vQ_length, hlen] at hi
    have h1 := hcell i (by omega)
    rw [add_spot'] at h1
    have hz1 : zs[i]? = some zs[i] := List.getElem?_eq_getElem (by omega)
    have hw := hwz zs[i] (List.getElem_mem _)
    have hb : 0 ≤ zs[i] ∧ zs[i] ≤ 18446744073709551615 := by simpa [Lit.wf, IntKind.min, IntKind.max, IntKind.signed, IntKind.bits] using hw
    have hu : U64 (BitVec.ofInt 64 zs[i]) = zs[i] := U64_ofInt_of _ hb.1 hb.2
    rw [h1]
    simp only [vQ, List.getElem?_map, List.getElem?_take_of_lt hi, hz1, Option.map_some, hu, List.getD, Option.getD_some]
end Go.Proofs.Ytdkfaicmdbhonaa
