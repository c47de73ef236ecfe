/-
  Layer 6: a script of steps that came in ([]Op), opened.
-/
import Derived.Test.YtndhlgbpfkidbaaWc
import Derived.Test.YtndhlgbpfkidbaaGen
namespace Go.Proofs.Ytndhlgbpfkidbaa
open Go.ChangeShapes Go.WideShapes Go.ChangeAt Go.RowKit Go.K
set_option linter.unusedVariables false
set_option linter.unusedSimpArgs false
theorem u32_of_wf' {n : Int} (h : (Lit.int .u32 n).wf = true) : ∃ x : BitVec 32, n = U32 x := by
  have : 0 ≤ n ∧ n ≤ 4294967295 := by simpa [Lit.wf, IntKind.min, IntKind.max, IntKind.signed, IntKind.bits] using h
  refine ⟨BitVec.ofInt 32 n, ?_⟩
  unfold U32; rw [BitVec.toNat_ofInt]; omega
set_option maxRecDepth 100000 in
theorem open_ops {H : Type} {enc : TypeId × Value → H} {W : World} {a : Option Addr} {len cap : Nat} {d : DataW H} {p : List MemPlace}
    (h : DataW.Trod enc Try.prog W 0 (fun _ => true) true 23 (.slice a len cap) d p) :
    len ≤ cap ∧ cap ≤ maxLen ∧ (0 < len → ∃ b off, a = some ⟨b, off, none⟩ ∧ ∀ i, i < len → ∃ kind sec n M K, OpAt W b (off + i * 5) kind sec n M K) := by
  obtain ⟨fuel, hf⟩ := h
  rcases Go.Deep.open_slice Try.underlying23 hf with ⟨hcs, hx⟩ | ⟨x, len', cap', m, n, D, Pl, hcs, _, hl, hm, hmm, hx, hel⟩
  · simp [Value.cells] at hcs
    obtain ⟨rfl, rfl, rfl⟩ := hcs
    exact ⟨Nat.le_refl _, by unfold maxLen; omega, fun h => by omega⟩
  · simp [Value.cells] at hcs
    obtain ⟨rfl, rfl, rfl⟩ := hcs
    refine ⟨hl, hm, fun hpos => ?_⟩
    simp only [if_true] at hmm
    subst hmm
    simp only [Prod.mk.injEq] at hx
    obtain ⟨rfl, rfl⟩ := hx
    have hC : Try.prog.cellsOf 33 = 5 := by kernel_rfl
    rw [hC] at hel
    have hspot : x.spot = none := by
      obtain ⟨cs', h1, _⟩ := hel 0 (by omega)
      obtain ⟨_, hlen, hcell⟩ := World.cells?_some h1
      have h0 := hcell 0 (by omega)
      rw [List.getElem?_eq_getElem (by omega)] at h0
      simpa [Addr.add] using World.cell?_spot h0
    obtain ⟨b, off, spot⟩ := x
    subst hspot
    refine ⟨b, off, rfl, fun i hi => ?_⟩
    obtain ⟨cs', h1, h2⟩ := hel i (by omega)
    obtain ⟨_, hlen, hcell⟩ := World.cells?_some h1
    obtain ⟨xs, n', _, hxx, _, hxl, hfl⟩ := DataW.trod_struct Try.underlying33 h2
    have s3 : Try.prog.cellsOf 3 = 1 := by kernel_rfl
    have s4 : Try.prog.cellsOf 4 = 1 := by kernel_rfl
    have s31 : Try.prog.cellsOf 31 = 1 := by kernel_rfl
    have s22 : Try.prog.cellsOf 22 = 1 := by kernel_rfl
    have hf0 : DataW.trod enc Try.prog W 0 (fun _ => true) true n' 3 ((cs'.drop 0).take (Try.prog.cellsOf 3)) = xs[0]? := hfl 0 _ rfl
    have hf1 : DataW.trod enc Try.prog W 0 (fun _ => true) true n' 4 ((cs'.drop 1).take (Try.prog.cellsOf 4)) = xs[1]? := hfl 1 _ rfl
    have hf2 : DataW.trod enc Try.prog W 0 (fun _ => true) true n' 31 ((cs'.drop 2).take (Try.prog.cellsOf 31)) = xs[2]? := hfl 2 _ rfl
    have hf3 : DataW.trod enc Try.prog W 0 (fun _ => true) true n' 22 ((cs'.drop 3).take (Try.prog.cellsOf 22)) = xs[3]? := hfl 3 _ rfl
    have hf4 : DataW.trod enc Try.prog W 0 (fun _ => true) true n' 22 ((cs'.drop 4).take (Try.prog.cellsOf 22)) = xs[4]? := hfl 4 _ rfl
    rw [s3] at hf0
    rw [s4] at hf1
    rw [s31] at hf2
    rw [s22] at hf3 hf4
    have hxl' : xs.length = 5 := hxl
    clear hxl hfl
    have k0 := hcell 0 (by omega)
    have k1 := hcell 1 (by omega)
    have k2 := hcell 2 (by omega)
    have k3 := hcell 3 (by omega)
    have k4 := hcell 4 (by omega)
    match cs', hlen, xs, hxl' with
    | [v0, v1, v2, v3, v4], _, [y0, y1, y2, y3, y4], _ =>
    obtain ⟨kind, rfl, w0⟩ := trod_int_inv Try.underlying3 hf0
    obtain ⟨sec, rfl⟩ := trod_bool_inv Try.underlying4 hf1
    obtain ⟨n, rfl, w2⟩ := trod_int_inv Try.underlying31 hf2
    obtain ⟨M, rfl, w3⟩ := trod_int_inv Try.underlying22 hf3
    obtain ⟨K, rfl, w4⟩ := trod_int_inv Try.underlying22 hf4
    obtain ⟨n, rfl⟩ := u32_of_wf' w2
    obtain ⟨M, rfl⟩ := u64_of_wf w3
    obtain ⟨K, rfl⟩ := u64_of_wf w4
    simp only [add_spot'] at k0 k1 k2 k3 k4
    exact ⟨kind, sec, n, M, K, k0, k1, k2, k3, k4, i64_of_wf w0⟩
end Go.Proofs.Ytndhlgbpfkidbaa
