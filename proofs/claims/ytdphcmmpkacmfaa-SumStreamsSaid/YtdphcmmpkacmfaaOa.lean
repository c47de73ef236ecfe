/-
  Layer 5: a script of steps that came in ([]Op), opened: every step's cells.
-/
import Derived.Test.YtdphcmmpkacmfaaLe
import Derived.Test.YtdphcmmpkacmfaaOpen
import Derived.Deep.Slices
namespace Go.Proofs.Ytdphcmmpkacmfaa
open Go.ChangeShapes Go.WideShapes Go.ChangeAt Go.RowKit Go.K
set_option linter.unusedVariables false
set_option linter.unusedSimpArgs false

theorem trod_int_inv {H : Type} {enc : TypeId × Value → H} {P : Program} {W : World} {base : Nat} {sp : Nat → Bool} {held : Bool} {fuel : Nat} {t : TypeId} {k : IntKind} {v : Value} {x : DataW H × List MemPlace}
    (ht : P.underlying t = some (.int k)) (h : DataW.trod enc P W base sp held fuel t [v] = some x) : ∃ n, v = .int k n ∧ (Lit.int k n).wf = true := by
  cases fuel with
  | zero => simp [DataW.trod] at h
  | succ fuel =>
    unfold DataW.trod at h
    rw [ht] at h
    cases v <;> simp at h
    obtain ⟨⟨rfl, hw⟩, _⟩ := h
    exact ⟨_, rfl, hw⟩
theorem weights_mem_all {H : Type} {P : Program} {e : TypeId} : ∀ {ds : List (DataW H)} {d : DataW H}, d ∈ ds → ∀ n ∈ d.weights P e, n ∈ DataW.weightsAll P e ds
  | d0 :: ds, d, hd, n, hn => by
    rw [DataW.weightsAll]
    rcases List.mem_cons.1 hd with rfl | hd
    · exact List.mem_append_left _ hn
    · exact List.mem_append_right _ (weights_mem_all hd n hn)
/-- One step's cells. -/
structure OpAt (W : World) (b o : Nat) (who kind : Int) (ad : Option Addr) (dc : Nat) (l : List (BitVec 8)) (x : BitVec 64) (long : Int) : Prop where
  c0 : W.cell? ⟨b, o, none⟩ = some (.int .i64 who)
  c1 : W.cell? ⟨b, o + 1, none⟩ = some (.int .i64 kind)
  c2 : W.cell? ⟨b, o + 2, none⟩ = some (.slice ad l.length dc)
  c3 : W.cell? ⟨b, o + 3, none⟩ = some (.int .u64 (U64 x))
  c4 : W.cell? ⟨b, o + 4, none⟩ = some (.int .i64 long)
  b0 : -9223372036854775808 ≤ who ∧ who ≤ 9223372036854775807
  b1 : -9223372036854775808 ≤ kind ∧ kind ≤ 9223372036854775807
  b4 : -9223372036854775808 ≤ long ∧ long ≤ 9223372036854775807
  sl : Sl W ad (vBs l)
  le : l.length ≤ dc
  cap : dc ≤ 140737488351232
  nil : ad = none → l.length = 0 ∧ dc = 0
theorem open_ops {H : Type} {enc : TypeId × Value → H} {W : World} {a : Option Addr} {len cap : Nat} {d : DataW H} {p : List MemPlace}
    (h : DataW.Trod enc Try.prog W 0 (fun _ => true) true 44 (.slice a len cap) d p)
    {ts : List TypeId} {ds : List (DataW H)} (hsz : (DataW.weightsEach Try.prog ts ds).all (· ≤ reachBytes) = true) {j : Nat} (hj : ts[j]? = some 44) (hd : ds[j]? = some d) :
    len ≤ cap ∧ cap ≤ maxLen ∧ (0 < len → ∃ b off, a = some ⟨b, off, none⟩ ∧ ∀ i, i < len → ∃ who kind ad dc l x long, OpAt W b (off + i * 5) who kind ad dc l x long) := by
  obtain ⟨fuel, hf⟩ := h
  rcases Go.Deep.open_slice Try.underlying44 hf with ⟨hcs, hx⟩ | ⟨x, len', cap', m, n, D, Pl, hcs, _, hl, hm, hmm, hx, hel⟩
  · simp [Value.cells] at hcs
    obtain ⟨rfl, rfl, rfl⟩ := hcs
    exact ⟨Nat.le_refl _, by unfold maxLen; omega, fun h => by omega⟩
  · simp [Value.cells] at hcs
    obtain ⟨rfl, rfl, rfl⟩ := hcs
    refine ⟨hl, hm, fun hpos => ?_⟩
    simp only [if_true] at hmm
    subst hmm
    simp only [Prod.mk.injEq] at hx
    obtain ⟨rfl, rfl⟩ := hx
    have hC : Try.prog.cellsOf 52 = 5 := by kernel_rfl
    rw [hC] at hel
    have hspot : x.spot = none := by
      obtain ⟨cs', h1, _⟩ := hel 0 (by omega)
      obtain ⟨_, hlen, hcell⟩ := World.cells?_some h1
      have h0 := hcell 0 (by omega)
      rw [List.getElem?_eq_getElem (by omega)] at h0
      simpa [Addr.add] using World.cell?_spot h0
    obtain ⟨b, off, spot⟩ := x
    subst hspot
    refine ⟨b, off, rfl, fun i hi => ?_⟩
    obtain ⟨cs', h1, h2⟩ := hel i (by omega)
    obtain ⟨_, hlen, hcell⟩ := World.cells?_some h1
    obtain ⟨xs, n', _, hxx, _, hxl, hfl⟩ := DataW.trod_struct Try.underlying52 h2
    have s3 : Try.prog.cellsOf 3 = 1 := by kernel_rfl
    have s29 : Try.prog.cellsOf 29 = 1 := by kernel_rfl
    have s22 : Try.prog.cellsOf 22 = 1 := by kernel_rfl
    have hf0 : DataW.trod enc Try.prog W 0 (fun _ => true) true n' 3 ((cs'.drop 0).take (Try.prog.cellsOf 3)) = xs[0]? := hfl 0 _ rfl
    have hf1 : DataW.trod enc Try.prog W 0 (fun _ => true) true n' 3 ((cs'.drop 1).take (Try.prog.cellsOf 3)) = xs[1]? := hfl 1 _ rfl
    have hf2 : DataW.trod enc Try.prog W 0 (fun _ => true) true n' 29 ((cs'.drop 2).take (Try.prog.cellsOf 29)) = xs[2]? := hfl 2 _ rfl
    have hf3 : DataW.trod enc Try.prog W 0 (fun _ => true) true n' 22 ((cs'.drop 3).take (Try.prog.cellsOf 22)) = xs[3]? := hfl 3 _ rfl
    have hf4 : DataW.trod enc Try.prog W 0 (fun _ => true) true n' 3 ((cs'.drop 4).take (Try.prog.cellsOf 3)) = xs[4]? := hfl 4 _ rfl
    rw [s3] at hf0 hf1 hf4
    rw [s29] at hf2
    rw [s22] at hf3
    have hxl' : xs.length = 5 := hxl
    clear hxl hfl
    have k0 := hcell 0 (by omega)
    have k1 := hcell 1 (by omega)
    have k2 := hcell 2 (by omega)
    have k3 := hcell 3 (by omega)
    have k4 := hcell 4 (by omega)
    match cs', hlen, xs, hxl' with
    | [v0, v1, v2, v3, v4], _, [y0, y1, y2, y3, y4], _ =>
    obtain ⟨who, rfl, w0⟩ := trod_int_inv Try.underlying3 hf0
    obtain ⟨kind, rfl, w1⟩ := trod_int_inv Try.underlying3 hf1
    obtain ⟨sm, rfl, w3⟩ := trod_int_inv Try.underlying22 hf3
    obtain ⟨long, rfl, w4⟩ := trod_int_inv Try.underlying3 hf4
    obtain ⟨x, rfl⟩ := u64_of_wf w3
    have hv2 : ∃ ad dl dc, v2 = .slice ad dl dc := by
      rcases Go.Deep.open_slice Try.underlying29 hf2 with ⟨hcs, _⟩ | ⟨z, l1, l2, _, _, _, _, hcs, _⟩
      · exact ⟨none, 0, 0, by simpa using hcs⟩
      · exact ⟨some z, l1, l2, by simpa using hcs⟩
    obtain ⟨ad, dl, dc, rfl⟩ := hv2
    have hsd : (DataW.weightsEach Try.prog [3, 3, 29, 22, 3] [y0.1, y1.1, y2.1, y3.1, y4.1]).all (· ≤ reachBytes) = true := by
      rw [List.all_eq_true]
      intro q hq
      refine List.all_eq_true.1 hsz q (DataW.weights_mem_each hj hd q ?_)
      rw [DataW.weights, Try.underlying44]
      refine List.mem_cons_of_mem _ (List.mem_append_left _ (weights_mem_all (d := D i) (List.mem_map_of_mem (List.mem_range.2 hi)) q ?_))
      injection hxx with hx1 hx2
      rw [hx1, DataW.weights, Try.underlying52]
      exact hq
    obtain ⟨l, rfl, q1, q2, q3, q4⟩ := open_bytes Try.underlying29 Try.underlying5 (by kernel_rfl) (by kernel_rfl) (d := y2.1) (p := y2.2) ⟨n', hf2⟩ hsd (j := 2) rfl rfl
    simp only [add_spot'] at k0 k1 k2 k3 k4
    exact ⟨who, kind, ad, dc, l, x, long, k0, k1, k2, k3, k4, i64_of_wf w0, i64_of_wf w1, i64_of_wf w4, q1, q2, q3, q4⟩
end Go.Proofs.Ytdphcmmpkacmfaa
