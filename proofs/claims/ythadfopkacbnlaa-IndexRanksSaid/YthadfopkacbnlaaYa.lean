/-
  Layer 18: a list of deals that came in, opened.
-/
import Derived.Test.YthadfopkacbnlaaTe
import Derived.Test.YthadfopkacbnlaaGen
namespace Go.Proofs.Ythadfopkacbnlaa
open Go.ChangeShapes Go.WideShapes Go.ChangeAt Go.RowKit Go.K
set_option linter.unusedVariables false
set_option linter.unusedSimpArgs false
theorem list_of_all {α : Type} {P : Nat → α → Prop} : ∀ (n : Nat), (∀ i, i < n → ∃ a, P i a) → ∃ l : List α, l.length = n ∧ ∀ i (h : i < l.length), P i l[i]
  | 0, _ => ⟨[], rfl, fun i h => by cases h⟩
  | n + 1, h => by
    obtain ⟨l, hl, hp⟩ := list_of_all n (fun i hi => h i (by omega))
    obtain ⟨a, ha⟩ := h n (by omega)
    refine ⟨l ++ [a], by simp [hl], fun i hi => ?_⟩
    by_cases h1 : i < l.length
    · rw [List.getElem_append_left h1]; exact hp i h1
    · have : i = l.length := by simp at hi; omega
      subst this
      rw [List.getElem_append_right (Nat.le_refl _)]
      simp only [Nat.sub_self, List.getElem_cons_zero]
      rw [hl]; exact ha
/-- A deal, out of its cells. -/
theorem dl_of_trod {H : Type} {enc : TypeId × Value → H} {W : World} {n : Nat} {cs : List Value} {y : DataW H × List MemPlace}
    (h : DataW.trod enc Try.prog W 0 (fun _ => true) true n 61 cs = some y) : ∃ e : Dl, cs = e.cells ∧ e.price < 18446744073709551616 ∧ IntKind.i64.wrap e.kind = e.kind ∧ IntKind.i64.wrap e.tick = e.tick := by
  obtain ⟨xs, n', _, hxx, hlen, hxl, hfl⟩ := DataW.trod_struct Try.underlying61 h
  have s61 : Try.prog.cellsOf 61 = 3 := by kernel_rfl
  have s3 : Try.prog.cellsOf 3 = 1 := by kernel_rfl
  have s30 : Try.prog.cellsOf 30 = 1 := by kernel_rfl
  rw [s61] at hlen
  have hf0 : DataW.trod enc Try.prog W 0 (fun _ => true) true n' 3 ((cs.drop 0).take (Try.prog.cellsOf 3)) = xs[0]? := hfl 0 _ rfl
  have hf1 : DataW.trod enc Try.prog W 0 (fun _ => true) true n' 30 ((cs.drop 1).take (Try.prog.cellsOf 30)) = xs[1]? := hfl 1 _ rfl
  have hf2 : DataW.trod enc Try.prog W 0 (fun _ => true) true n' 3 ((cs.drop 2).take (Try.prog.cellsOf 3)) = xs[2]? := hfl 2 _ rfl
  rw [s3] at hf0 hf2
  rw [s30] at hf1
  have hxl' : xs.length = 3 := hxl
  clear hxl hfl
  match cs, hlen, xs, hxl' with
  | [v0, v1, v2], _, [y0, y1, y2], _ =>
  obtain ⟨a0, rfl, w0⟩ := trod_int_inv Try.underlying3 hf0
  obtain ⟨a1, rfl, w1⟩ := trod_int_inv Try.underlying30 hf1
  obtain ⟨a2, rfl, w2⟩ := trod_int_inv Try.underlying3 hf2
  obtain ⟨x1, rfl⟩ := u64_of_wf w1
  have i0 := i64_of_wf w0
  have i2 := i64_of_wf w2
  refine ⟨⟨a0, x1.toNat, a2⟩, rfl, x1.isLt, ?_, ?_⟩
  · show IntKind.i64.wrap a0 = a0
    rw [IntKind.wrap_i64]; omega
  · show IntKind.i64.wrap a2 = a2
    rw [IntKind.wrap_i64]; omega
structure DlsOk (W : World) (a : Option Addr) (c : Nat) (l : List Dl) : Prop where
  sl : Sl W a (dFlat l)
  pr : ∀ d ∈ l, d.price < 18446744073709551616
  le : l.length ≤ c
  mx : l.length * 24 ≤ 140737488355328
  nil : a = none → l.length = 0 ∧ c = 0
theorem DlsOk.kept {W W' : World} {a : Option Addr} {c : Nat} {l : List Dl} (h : DlsOk W a c l) (hb : Below W.heap.size W W') : DlsOk W' a c l := ⟨h.sl.kept hb, h.pr, h.le, h.mx, h.nil⟩
set_option maxRecDepth 100000 in
theorem open_dls {H : Type} {enc : TypeId × Value → H} {W : World} {r : Reach} {b0 : Nat} {v : Value} {d : DataW H} {p : List MemPlace} (hv : Value.okWide Try.prog W r b0 22 v)
    (h : DataW.Trod enc Try.prog W 0 (fun _ => true) true 22 v d p)
    {ts : List TypeId} {ds : List (DataW H)} (hsz : (DataW.weightsEach Try.prog ts ds).all (· ≤ reachBytes) = true) {j : Nat} (hj : ts[j]? = some 22) (hd : ds[j]? = some d) :
    ∃ (a : Option Addr) (c : Nat) (l : List Dl), v = .slice a l.length c ∧ DlsOk W a c l := by
  obtain ⟨a, len, cap, rfl⟩ := okWide_slice Try.underlying22 hv
  obtain ⟨fuel, h⟩ := h
  have h' : DataW.trod enc Try.prog W 0 (fun _ => true) true fuel 22 [.slice a len cap] = some (d, p) := h
  have hw : ∀ q ∈ d.weights Try.prog 22, q ≤ reachBytes := fun q hq => by
    have h9 := List.all_eq_true.1 hsz q (DataW.weights_mem_each hj hd q hq)
    simpa using h9
  rcases Go.Deep.open_slice Try.underlying22 h' with ⟨hcs, hx⟩ | ⟨x, len, cap, m, k, D, Pl, hcs, _, hl, hm, hmm, hx, hel⟩
  · simp at hcs
    obtain ⟨rfl, rfl, rfl⟩ := hcs
    exact ⟨none, 0, [], rfl, ⟨Sl.nil _ _, (fun e he => by cases he), Nat.le_refl _, (by show 0 * 24 ≤ _; omega), fun _ => ⟨rfl, rfl⟩⟩⟩
  · simp at hcs
    obtain ⟨rfl, rfl, rfl⟩ := hcs
    simp only [if_true] at hmm
    subst hmm
    have hC : Try.prog.cellsOf 61 = 3 := by kernel_rfl
    rw [hC] at hel
    obtain ⟨hx1, hx2⟩ := Prod.mk.inj hx
    have hbig : len * 24 ≤ reachBytes := by
      have h9 : (((List.range len).map D).length + ((List.range (m - len)).map fun j => D (len + j)).length) * Try.prog.bytesOf 61 ≤ reachBytes := by
        refine hw _ ?_
        rw [hx1, DataW.weights, Try.underlying22]
        exact List.mem_cons_self
      have h8 : Try.prog.bytesOf 61 = 24 := by kernel_rfl
      rw [h8] at h9
      simp only [List.length_map, List.length_range] at h9
      omega
    unfold reachBytes at hbig
    have hall : ∀ i, i < len → ∃ e : Dl, (∀ j, j < 3 → W.cell? ((x.add (i * 3)).add j) = e.cells[j]?) ∧ e.price < 18446744073709551616 := by
      intro i hi
      obtain ⟨cs', h1, h2⟩ := hel i (by omega)
      obtain ⟨_, hlen, hcell⟩ := World.cells?_some h1
      obtain ⟨e, rfl, he, _⟩ := dl_of_trod h2
      exact ⟨e, fun j hj => hcell j hj, he⟩
    obtain ⟨es, hes, hp⟩ := list_of_all len hall
    refine ⟨some x, m, es, by rw [hes], ⟨?_, (fun e he => ?_), by omega, by omega, fun h => by cases h⟩⟩
    · intro hne
      have h0 : 0 < es.length := by
        rcases es with _ | ⟨a, l⟩
        · exact absurd rfl hne
        · simp
      have hspot : x.spot = none := by
        have h1 := (hp 0 h0).1 0 (by omega)
        have : (es[0]).cells[0]? = some (.int .i64 (es[0]).kind) := rfl
        rw [this] at h1
        simpa [Addr.add] using World.cell?_spot h1
      obtain ⟨b, off, spot⟩ := x
      subst hspot
      refine ⟨b, off, rfl, fun i hi => ?_⟩
      rw [dFlat_length] at hi
      have h1 := (hp (i / 3) (by omega)).1 (i % 3) (by omega)
      rw [add_spot', add_spot'] at h1
      have h2 := dFlat_get es (i / 3) (i % 3) (by omega) (by omega)
      rw [show i / 3 * 3 + i % 3 = i by omega] at h2
      rw [h2, ← h1, Nat.add_assoc, show i / 3 * 3 + i % 3 = i by omega]
    · obtain ⟨i, hi, rfl⟩ := List.getElem_of_mem he
      exact (hp i hi).2
end Go.Proofs.Ythadfopkacbnlaa
