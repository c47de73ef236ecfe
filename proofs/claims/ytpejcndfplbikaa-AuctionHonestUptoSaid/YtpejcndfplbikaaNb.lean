/-
  Layer 21: a list of numbers of 64 bits that came in, opened; of bounded bulk.
-/
import Derived.Test.YtpejcndfplbikaaMh
namespace Go.Proofs.Ytpejcndfplbikaa
open Go.ChangeShapes Go.WideShapes Go.ChangeAt Go.RowKit Go.K
set_option linter.unusedVariables false
set_option linter.unusedSimpArgs false
def vQ (l : List (BitVec 64)) : List Value := l.map fun c => .int .u64 (U64 c)
theorem vQ_length (l : List (BitVec 64)) : (vQ l).length = l.length := by simp [vQ]
theorem vQ_get (l : List (BitVec 64)) (i : Nat) (h : i < l.length) : (vQ l)[i]? = some (.int .u64 (U64 l[i])) := by
  simp [vQ, List.getElem?_eq_getElem h]
/-- A list of numbers, as it lies. -/
structure Qs where
  a : Option Addr
  c : Nat
  l : List (BitVec 64)
def Qs.v (x : Qs) : Value := .slice x.a x.l.length x.c
structure QsOk (W : World) (x : Qs) : Prop where
  sl : Sl W x.a (vQ x.l)
  le : x.l.length ≤ x.c
  mx : x.l.length ≤ 1048576
  nil : x.a = none → x.l.length = 0 ∧ x.c = 0
theorem QsOk.kept {W W' : World} {x : Qs} (h : QsOk W x) (hb : Below W.heap.size W W') : QsOk W' x := ⟨h.sl.kept hb, h.le, h.mx, h.nil⟩
theorem q_at {W : World} {a : Option Addr} {l : List (BitVec 64)} (h : Sl W a (vQ l)) (i : Nat) (hi : i < l.length) : ∃ b off, a = some ⟨b, off, none⟩ ∧ W.cell? ⟨b, off + i, none⟩ = some (.int .u64 (U64 l[i])) := by
  obtain ⟨b, off, he, hc⟩ := h (fun e => by have := congrArg List.length e; rw [vQ_length] at this; simp at this; rw [this] at hi; simp at hi)
  refine ⟨b, off, he, ?_⟩
  have := hc i (by rw [vQ_length]; exact hi)
  rw [vQ_get _ _ hi] at this
  exact this
theorem bulk_part {H : Type} {d : DataW H} : ∀ {l : List (DataW H)}, d ∈ l → Rows.uptoBulk d ≤ Rows.uptoBulkAll l
  | x :: r, h => by
    rw [Rows.uptoBulkAll]
    rcases List.mem_cons.1 h with rfl | h
    · omega
    · have := bulk_part h; omega
theorem bulk_pos {H : Type} (d : DataW H) : 1 ≤ Rows.uptoBulk d := by
  cases d with
  | lit x => cases x <;> simp only [Rows.uptoBulk] <;> omega
  | _ => simp only [Rows.uptoBulk]; omega
theorem bulk_len {H : Type} : ∀ (l : List (DataW H)), l.length ≤ Rows.uptoBulkAll l
  | [] => Nat.zero_le _
  | x :: r => by rw [Rows.uptoBulkAll, List.length_cons]; have := bulk_len r; have := bulk_pos x; omega
theorem open_q64 {H : Type} {enc : TypeId × Value → H} {W : World} {r : Reach} {b0 : Nat} {v : Value} {d : DataW H} {p : List MemPlace} (hv : Value.okWide Try.prog W r b0 58 v)
    (h : DataW.Trod enc Try.prog W 0 (fun _ => true) true 58 v d p) {ds : List (DataW H)} (hk : Rows.uptoSmall H ds = true) {j : Nat} (hd : ds[j]? = some d) : ∃ x : Qs, v = x.v ∧ QsOk W x := by
  obtain ⟨a, len, cap, rfl⟩ := okWide_slice Try.underlying58 hv
  obtain ⟨fuel, hf⟩ := h
  rcases open_ints Try.underlying58 Try.underlying22 (by kernel_rfl) hf with ⟨hcs, hx⟩ | ⟨x, len', cap', zs, hcs, _, hl, hm, hz, hx, hcell, hwz⟩
  · simp [Value.cells] at hcs
    obtain ⟨rfl, rfl, rfl⟩ := hcs
    exact ⟨⟨none, 0, []⟩, rfl, ⟨Sl.nil _ _, Nat.le_refl _, by simp, fun _ => ⟨rfl, rfl⟩⟩⟩
  · simp [Value.cells] at hcs
    obtain ⟨rfl, rfl, rfl⟩ := hcs
    simp only [Prod.mk.injEq] at hx
    obtain ⟨rfl, rfl⟩ := hx
    simp only [if_true] at hz
    have hbk : len ≤ 1048576 := by
      have h1 : Rows.uptoBulkAll ds ≤ 1048576 := of_decide_eq_true hk
      have h2 := bulk_part (List.mem_of_getElem? hd)
      rw [Rows.uptoBulk] at h2
      have h3 := bulk_len (lits (H := H) IntKind.u64 (zs.take len))
      simp only [lits, List.length_map, List.length_take] at h3
      have h4 : min len zs.length = len := by omega
      rw [h4] at h3
      simp only [lits] at h2
      omega
    have hlen : ((zs.take len).map (BitVec.ofInt 64)).length = len := by simp; omega
    refine ⟨⟨some x, cap, (zs.take len).map (BitVec.ofInt 64)⟩, by unfold Qs.v; simp only [hlen], ?_, by simp only [hlen]; omega, by simp only [hlen]; omega, fun h => by cases h⟩
    intro hne
    have h0 : 0 < len := by
      rcases Nat.eq_zero_or_pos len with h' | h'
      · subst h'; exact absurd (by simp [vQ]) hne
      · exact h'
    obtain ⟨b, off, spot⟩ := x
    have hspot : spot = none := by simpa [Addr.add] using World.cell?_spot (hcell 0 (by omega))
    subst hspot
    refine ⟨b, off, rfl, fun i hi => ?_⟩
    rw [vQ_length, hlen] at hi
    have h1 := hcell i (by omega)
    rw [add_spot] at h1
    have hz1 : zs[i]? = some zs[i] := List.getElem?_eq_getElem (by omega)
    have hw := hwz zs[i] (List.getElem_mem _)
    have hb : 0 ≤ zs[i] ∧ zs[i] ≤ 18446744073709551615 := by simpa [Lit.wf, IntKind.min, IntKind.max, IntKind.signed, IntKind.bits] using hw
    have hu : U64 (BitVec.ofInt 64 zs[i]) = zs[i] := U64_ofInt_of _ hb.1 hb.2
    rw [h1]
    simp only [vQ, List.getElem?_map, List.getElem?_take_of_lt hi, hz1, Option.map_some, hu, List.getD, Option.getD_some]
end Go.Proofs.Ytpejcndfplbikaa
