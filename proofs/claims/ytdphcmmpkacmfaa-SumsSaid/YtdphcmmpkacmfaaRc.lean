/-
  Layer 5: the document's Forge, walked: elimination over the 64 bits.
-/
import Derived.Test.YtdphcmmpkacmfaaRb
import Derived.Test.YtdphcmmpkacmfaaLd
import Derived.Test.YtdphcmmpkacmfaaMem
import Derived.Test.YtdphcmmpkacmfaaLate
namespace Go.Proofs.Ytdphcmmpkacmfaa
open Go.RowKit Go.K
set_option linter.unusedVariables false
set_option linter.unusedSimpArgs false
attribute [local go_sem] xor_U64 U64_ofInt wrap_U8 U8_ofInt tmod_U64_2

theorem rsum_at (a : Option Addr) (n cap : Nat) (l : List (BitVec 8)) (w : World) (hn : l.length = n) (hl : n ≤ maxLen) (hs : Sl w a (vBs l)) :
    Calls Try.prog 18 #[.slice a n cap] w fun e w' => e = .returned (.int .u64 (U64 (updB 0#64 l))) ∧ w = w' := by
  subst hn; exact rsum_any a cap l w hl hs
theorem rupdate_at (r : BitVec 64) (a : Option Addr) (n cap : Nat) (l : List (BitVec 8)) (w : World) (hn : l.length = n) (hl : n ≤ maxLen) (hs : Sl w a (vBs l)) :
    Calls Try.prog 20 #[.int .u64 (U64 r), .slice a n cap] w fun e w' => e = .returned (.int .u64 (U64 (updB r l))) ∧ w = w' := by
  subst hn; exact rupdate_any r a cap l w hl hs
theorem sl_row {w : World} {g : Nat} {l : List (BitVec 8)} {t : TypeId} (h : w.heap[g]? = some (.cells (vBs l).toArray t)) : Sl w (some ⟨g, 0, none⟩) (vBs l) := fun _ =>
  ⟨g, 0, rfl, fun i _ => by rw [cell_of_row _ _ _ _ _ _ h, Nat.zero_add]; simp⟩
theorem lt_of_row {w : World} {g : Nat} {o : Obj} (h : w.heap[g]? = some o) : g < w.heap.size := (Array.getElem?_eq_some_iff.1 h).1
theorem alloc_at {w : World} {n : Nat} {o : Obj} (h : n = w.heap.size) : (w.alloc o).heap[n]? = some o := by subst h; exact heap_alloc_new _ _
abbrev zero8 : Array Value := #[.int .u8 0, .int .u8 0, .int .u8 0, .int .u8 0, .int .u8 0, .int .u8 0, .int .u8 0, .int .u8 0]
def zL : List (BitVec 8) := [0#8, 0#8, 0#8, 0#8, 0#8, 0#8, 0#8, 0#8]
theorem zero8_eq : zero8 = (vBs zL).toArray := rfl
theorem zL_bytes : zL = bytesN 8 0#64 := by decide
theorem vBs_set' (l : List (BitVec 8)) (i : Nat) (b : BitVec 8) : (vBs l).set i (.int .u8 (U8 b)) = vBs (l.set i b) := by
  simp [vBs, List.map_set, vB]
def oneL (k : Nat) : List (BitVec 8) := zL.set (k / 8) (BitVec.ofInt 8 (2 ^ (k % 8)))
theorem oneL_bytes (k : Nat) (h : k < 64) : oneL k = bytesN 8 (bitB k) :=
  (by decide +kernel : ∀ k : Fin 64, oneL k = bytesN 8 (bitB k)) ⟨k, h⟩
theorem oneL_length (k : Nat) : (oneL k).length = 8 := by simp [oneL, zL]
theorem upd8 (s x y : BitVec 64) : updB s (bytesN 8 x) ^^^ updB s (bytesN 8 y) = iterB 64 (x ^^^ y) := by
  unfold updB
  rw [takeL_eight, takeL_eight, iterB_xor, iterB_xor, iterB_xor]
  generalize iterB 64 (~~~ s) = a
  generalize iterB 64 x = b
  generalize iterB 64 y = c
  apply BitVec.eq_of_getLsbD_eq; intro i hi
  simp only [BitVec.getLsbD_xor, BitVec.getLsbD_not]
  cases a.getLsbD i <;> cases b.getLsbD i <;> cases c.getLsbD i <;> simp [hi]
/-- What bit k turns. -/
def colB (k : Nat) : BitVec 64 := iterB 64 (bitB k)
theorem col_upd (s : BitVec 64) (k : Nat) (h : k < 64) : updB s (oneL k) ^^^ updB s zL = colB k := by
  rw [oneL_bytes k h, zL_bytes, upd8]; simp [colB]
theorem bit_test (x : BitVec 64) (k : Nat) : (U64 ((x >>> k) &&& 1#64) == 1) = bitAt x k := by
  rw [and1_cases, BitVec.getLsbD_ushiftRight, Nat.add_zero]
  unfold bitAt
  cases x.getLsbD k <;> rfl
theorem matRow_congr {c d : Nat → BitVec 64} (h : ∀ i, i < 64 → c i = d i) : matRow c = matRow d := by
  unfold matRow
  congr 1
  apply List.map_congr_left
  intro i hi
  rw [h i (List.mem_range.1 hi)]
/-- Clearing, up to a row. -/
def clrTo (fl : Nat → Bool) (k j : Nat) (m : Nat → BitVec 64) (i : Nat) : BitVec 64 := if i < j ∧ fl i = true then m i ^^^ m k else m i
theorem clrTo_zero (fl : Nat → Bool) (k : Nat) (m : Nat → BitVec 64) : clrTo fl k 0 m = m := by funext i; simp [clrTo]
theorem clrTo_ge (fl : Nat → Bool) (k j : Nat) (m : Nat → BitVec 64) (i : Nat) (h : j ≤ i) : clrTo fl k j m i = m i := by unfold clrTo; rw [if_neg (by omega)]
theorem clrTo_no (fl : Nat → Bool) (k j : Nat) (m : Nat → BitVec 64) (i : Nat) (h : fl i = false) : clrTo fl k j m i = m i := by unfold clrTo; rw [if_neg (by simp [h])]
theorem clrTo_skip (fl : Nat → Bool) (k j : Nat) (m : Nat → BitVec 64) (h : fl j = false) : clrTo fl k (j + 1) m = clrTo fl k j m := by
  funext i
  unfold clrTo
  by_cases e : i = j
  · subst e; rw [if_neg (by simp [h]), if_neg (by simp [h])]
  · have : i < j + 1 ↔ i < j := by omega
    simp only [this]
theorem clrTo_all (fl : Nat → Bool) (k : Nat) (m : Nat → BitVec 64) (i : Nat) (h : i < 64) : clrTo fl k 64 m i = clearR fl k m i := by
  unfold clrTo clearR
  simp [h]
def updR (c : Nat → BitVec 64) (k : Nat) (x : BitVec 64) (i : Nat) : BitVec 64 := if i = k then x else c i
theorem clrTo_upd (fl : Nat → Bool) (k j : Nat) (m : Nat → BitVec 64) (h : fl j = true) : updR (clrTo fl k j m) j (m j ^^^ m k) = clrTo fl k (j + 1) m := by
  funext i
  unfold clrTo updR
  by_cases e : i = j
  · subst e; rw [if_pos rfl, if_pos ⟨by omega, h⟩]
  · have : i < j + 1 ↔ i < j := by omega
    simp only [this, if_neg e]
theorem swap_upd (c : Nat → BitVec 64) (k a : Nat) : updR (updR c k (c a)) a (c k) = swapR c k a := by
  funext i
  unfold updR swapR
  by_cases e1 : i = k
  · by_cases e2 : i = a
    · subst e1; subst e2; simp
    · subst e1; simp [e2]
  · by_cases e2 : i = a
    · subst e2; simp [e1]
    · simp [e1, e2]
/-- What the walk holds of the heap: two rows of eight zeros, the columns, what they are made of. -/
structure FH (w : World) (g : Nat) (c d : Nat → BitVec 64) (W : World) : Prop where
  bel : Below w.heap.size w W
  z4 : W.heap[w.heap.size]? = some (.cells (vBs zL).toArray 37)
  z5 : W.heap[w.heap.size + 1]? = some (.cells (vBs zL).toArray 37)
  hc : W.heap[g]? = some (.cells (matRow c) 64)
  hd : W.heap[g + 1]? = some (.cells (matRow d) 64)
  hg : w.heap.size + 1 < g
theorem FH.kept {w W W' : World} {g : Nat} {c d : Nat → BitVec 64} (h : FH w g c d W) (hb : Below W.heap.size W W') : FH w g c d W' :=
  ⟨h.bel.trans (hb.mono h.bel.size), (hb.block _ (lt_of_row h.z4)).trans h.z4, (hb.block _ (lt_of_row h.z5)).trans h.z5, (hb.block _ (lt_of_row h.hc)).trans h.hc, (hb.block _ (lt_of_row h.hd)).trans h.hd, h.hg⟩
theorem FH.setC {w W : World} {g : Nat} {c d : Nat → BitVec 64} (h : FH w g c d W) (k : Nat) (x : BitVec 64) : FH w g (updR c k x) d (W.setCell ⟨g, k, none⟩ (.int .u64 (U64 x))) := by
  have hg := h.hg
  refine ⟨h.bel.setCell (by show w.heap.size ≤ g; omega) _, ?_, ?_, ?_, ?_, hg⟩
  · rw [heap_setCell_other _ _ _ _ (by show w.heap.size ≠ g; omega)]; exact h.z4
  · rw [heap_setCell_other _ _ _ _ (by show w.heap.size + 1 ≠ g; omega)]; exact h.z5
  · rw [heap_setCell_same _ _ _ _ _ _ h.hc]
    show some (Obj.cells ((matRow c).setIfInBounds k (.int .u64 (U64 x))) 64 (0, 0)) = _
    rw [matRow_set]; rfl
  · rw [heap_setCell_other _ _ _ _ (by show g + 1 ≠ g; omega)]; exact h.hd
theorem FH.setD {w W : World} {g : Nat} {c d : Nat → BitVec 64} (h : FH w g c d W) (k : Nat) (x : BitVec 64) : FH w g c (updR d k x) (W.setCell ⟨g + 1, k, none⟩ (.int .u64 (U64 x))) := by
  have hg := h.hg
  refine ⟨h.bel.setCell (by show w.heap.size ≤ g + 1; omega) _, ?_, ?_, ?_, ?_, hg⟩
  · rw [heap_setCell_other _ _ _ _ (by show w.heap.size ≠ g + 1; omega)]; exact h.z4
  · rw [heap_setCell_other _ _ _ _ (by show w.heap.size + 1 ≠ g + 1; omega)]; exact h.z5
  · rw [heap_setCell_other _ _ _ _ (by show g ≠ g + 1; omega)]; exact h.hc
  · rw [heap_setCell_same _ _ _ _ _ _ h.hd]
    show some (Obj.cells ((matRow d).setIfInBounds k (.int .u64 (U64 x))) 64 (0, 0)) = _
    rw [matRow_set]; rfl
theorem FH.cellC {w W : World} {g : Nat} {c d : Nat → BitVec 64} (h : FH w g c d W) (k : Nat) (hk : k < 64) : W.cell? ⟨g, k, none⟩ = some (.int .u64 (U64 (c k))) := by rw [cell_of_row _ _ _ _ _ _ h.hc, matRow_get _ _ hk]
theorem FH.cellD {w W : World} {g : Nat} {c d : Nat → BitVec 64} (h : FH w g c d W) (k : Nat) (hk : k < 64) : W.cell? ⟨g + 1, k, none⟩ = some (.int .u64 (U64 (d k))) := by rw [cell_of_row _ _ _ _ _ _ h.hd, matRow_get _ _ hk]
theorem FH.frC {w W : World} {g : Nat} {c d : Nat → BitVec 64} (h : FH w g c d W) (k : Nat) : W.frozen? ⟨g, k, none⟩ = false := frozen_of_row W g k _ _ h.hc
theorem FH.frD {w W : World} {g : Nat} {c d : Nat → BitVec 64} (h : FH w g c d W) (k : Nat) : W.frozen? ⟨g + 1, k, none⟩ = false := frozen_of_row W (g + 1) k _ _ h.hd
theorem FH.congr {w W : World} {g : Nat} {c d c2 d2 : Nat → BitVec 64} (h : FH w g c d W) (e1 : ∀ i, i < 64 → c i = c2 i) (e2 : ∀ i, i < 64 → d i = d2 i) : FH w g c2 d2 W :=
  ⟨h.bel, h.z4, h.z5, by rw [← matRow_congr e1]; exact h.hc, by rw [← matRow_congr e2]; exact h.hd, h.hg⟩
theorem updR_upTo (k : Nat) (m : Nat → BitVec 64) : updR (upTo k m) k (m k) = upTo (k + 1) m := upTo_set k m
theorem forge_is (l : List (BitVec 8)) (r R : BitVec 64) (hR : R = r ^^^ updB (updB 0#64 l) zL) : ofM (elim 64 (colB, bitB)).2 R = forgeX l r := by
  have h1 : iterB 64 (ofM (elim 64 (colB, bitB)).2 R) = R := elim_solves (f := fun x => iterB 64 x) (iterB_xor 64) (fun y => ⟨backN 64 y, iter_back 64 y⟩) R
  have h2 : updB (updB 0#64 l) (bytesN 8 (forgeX l r)) = r := by rw [← updB_append]; exact forge_sums l r
  have h3 := upd8 (updB 0#64 l) (forgeX l r) 0#64
  rw [h2, ← zL_bytes, ← hR, BitVec.xor_zero] at h3
  exact iterB_inj 64 (h1.trans h3)
set_option maxRecDepth 100000 in
set_option maxHeartbeats 2000000 in
theorem rforge_any (r : BitVec 64) (a : Option Addr) (cap : Nat) (l : List (BitVec 8)) (w : World) (hl : l.length ≤ maxLen) (hs : Sl w a (vBs l)) :
    Calls Try.prog 22 #[.slice a l.length cap, .int .u64 (U64 r)] w fun e w' => e = .returned (.agg (vBs (bytesN 8 (forgeX l r))).toArray) ∧ Below w.heap.size w w' := by
  have HA := Lib.hid hs
  have HL := Lib.hid hl
  clear hs hl
  go_enter Try.func22, Try.ntmps22
  go_wp2_with fail
  refine wp_world (fun W => Below w.heap.size w W ∧ W.heap[w.heap.size]? = some (.cells (vBs zL).toArray 37) ∧ W.heap[w.heap.size + 1]? = some (.cells (vBs zL).toArray 37))
    ⟨((Below.refl _ _).alloc (Nat.le_refl _) _).alloc (by simp) _, (heap_alloc_old _ _ (by simp)).trans (heap_alloc_new _ _), by
      exact alloc_at (by simp)⟩ ?_
  intro W0 ⟨hB, h4, h5⟩
  have HR := Lib.hid (show ∀ W, Below W0.heap.size W0 W → Calls Try.prog 18 #[.slice a l.length cap] W fun e w' => e = .returned (.int .u64 (U64 (updB 0#64 l))) ∧ Below W0.heap.size W0 w' from
    fun W hW => onto_same (rsum_any a cap l W HL.out ((HA.out.kept hB).kept hW)) hW)
  have HU := Lib.hid (show ∀ W, Below W0.heap.size W0 W → Calls Try.prog 20 #[.int .u64 (U64 (updB 0#64 l)), .slice (some ⟨w.heap.size + 1, 0, none⟩) 8 8] W fun e w' => e = .returned (.int .u64 (U64 (updB (updB 0#64 l) zL))) ∧ Below W0.heap.size W0 w' from
    fun W hW => onto_same (rupdate_at _ _ 8 8 zL W rfl (by decide) (sl_row ((hW.block _ (lt_of_row h5)).trans h5))) hW)
  refine wp_region_inv 6 (fun W => Below W0.heap.size W0 W) (by kernel_rfl) (by kernel_rfl) (fun _ => ⟨rfl, rfl, rfl, Nat.le_refl _, fun _ _ => rfl⟩) ?_
  simp only [List.take_succ_cons, List.take_zero]
  iterate 6
    apply wpInv_cons
    · rfl
    · intro Wx hw
      go_simp
      first
        | exact ⟨hw, rfl⟩
        | (show Calls _ _ _ _ _; with_reducible exact HR.out _ hw)
        | (show Calls _ _ _ _ _; with_reducible exact HU.out _ hw)
    simp only [Act.put, List.setIfInBounds_toArray, List.set_cons_zero, List.set_cons_succ]
  refine wpInv_nil fun W1 hb1 => ?_
  simp only [List.drop_succ_cons, List.drop_zero]
  have hB1 := hB.trans (hb1.mono hB.size)
  have h41 := (hb1.block _ (lt_of_row h4)).trans h4
  have h51 := (hb1.block _ (lt_of_row h5)).trans h5
  clear HR HU hb1 h4 h5 hB
  obtain ⟨R, hR⟩ : ∃ R, R = r ^^^ updB (updB 0#64 l) zL := ⟨_, rfl⟩
  have HRR := Lib.hid hR
  clear hR
  have HB := Lib.hid hB1
  have H4 := Lib.hid h41
  have H5 := Lib.hid h51
  clear hB1 h41 h51
  go_wp2
  refine wp_world (fun W => FH w W1.heap.size (upTo 0 colB) (upTo 0 bitB) W) (by
    have hz := lt_of_row H5.out
    refine ⟨(HB.out.alloc HB.out.size _).alloc (by have := HB.out.size; simp; omega) _, ?_, ?_, ?_, ?_, hz⟩
    · rw [heap_alloc_old _ _ (by simp; omega), heap_alloc_old _ _ (by omega)]; exact H4.out
    · rw [heap_alloc_old _ _ (by simp; omega), heap_alloc_old _ _ hz]; exact H5.out
    · rw [heap_alloc_old _ _ (by simp)]; exact heap_alloc_new _ _
    · exact alloc_at (by simp)) ?_
  clear HB H4 H5
  generalize W1.heap.size = g
  intro W2 hF
  have HF := Lib.hid hF
  clear hF
  go_loopw [9, 10] (fun i _ wr => ∃ k : Nat, k ≤ 64 ∧ i = .int .i64 k ∧ FH w g (upTo k colB) (upTo k bitB) wr) (fun i _ _ => 64 - (intOf i).toNat)
  case atStart => exact ⟨0, by omega, rfl, HF.out⟩
  case round =>
    clear HF
    obtain ⟨k, hk, rfl, hF⟩ := hrel
    have HF := Lib.hid hF
    clear hF
    by_cases hlt : k < 64
    · have hb : decide ((k : Int) < 64) = true := by simp; omega
      have q8 : k / 8 < 8 := by omega
      have hltI : (k : Int) < 64 := by omega
      go_wp2
      refine wp_world (fun W => FH w g (upTo k colB) (upTo k bitB) W ∧ W.heap[wr.heap.size]? = some (.cells (vBs (oneL k)).toArray 37)) ⟨HF.out.kept ((Below.refl _ _).alloc (Nat.le_refl _) _), by
        rw [oneL, ← vBs_set']; exact heap_alloc_new _ _⟩ ?_
      clear HF
      generalize wr.heap.size = g10
      intro W3 ⟨hF, h10⟩
      have HR := Lib.hid (show ∀ W, Below W3.heap.size W3 W → Calls Try.prog 18 #[.slice a l.length cap] W fun e w' => e = .returned (.int .u64 (U64 (updB 0#64 l))) ∧ Below W3.heap.size W3 w' from
        fun W hW => onto_same (rsum_any a cap l W HL.out ((HA.out.kept hF.bel).kept hW)) hW)
      have HU := Lib.hid (show ∀ W, Below W3.heap.size W3 W → Calls Try.prog 20 #[.int .u64 (U64 (updB 0#64 l)), .slice (some ⟨w.heap.size + 1, 0, none⟩) 8 8] W fun e w' => e = .returned (.int .u64 (U64 (updB (updB 0#64 l) zL))) ∧ Below W3.heap.size W3 w' from
        fun W hW => onto_same (rupdate_at _ _ 8 8 zL W rfl (by decide) (sl_row ((hW.block _ (lt_of_row hF.z5)).trans hF.z5))) hW)
      have HO := Lib.hid (show ∀ W, Below W3.heap.size W3 W → Calls Try.prog 20 #[.int .u64 (U64 (updB 0#64 l)), .slice (some ⟨g10, 0, none⟩) 8 8] W fun e w' => e = .returned (.int .u64 (U64 (updB (updB 0#64 l) (oneL k)))) ∧ Below W3.heap.size W3 w' from
        fun W hW => onto_same (rupdate_at _ _ 8 8 (oneL k) W (oneL_length k) (by decide) (sl_row ((hW.block _ (lt_of_row h10)).trans h10))) hW)
      have HCOL := Lib.hid (col_upd (updB 0#64 l) k hlt)
      have HF := Lib.hid hF
      clear hF h10
      refine wp_region_inv 11 (fun W => Below W3.heap.size W3 W) (by kernel_rfl) (by kernel_rfl) (fun _ => ⟨rfl, rfl, rfl, Nat.le_refl _, fun _ _ => rfl⟩) ?_
      simp only [List.take_succ_cons, List.take_zero]
      iterate 9
        apply wpInv_cons
        · rfl
        · intro Wx hw
          go_simp
          first
            | exact ⟨hw, rfl⟩
            | (show Calls _ _ _ _ _; with_reducible exact HR.out _ hw)
            | (show Calls _ _ _ _ _; with_reducible exact HU.out _ hw)
            | (show Calls _ _ _ _ _; with_reducible exact HO.out _ hw)
        simp only [Act.put, List.setIfInBounds_toArray, List.set_cons_zero, List.set_cons_succ]
      refine wpInv_cons (.int .u64 (U64 (colB k))) rfl (fun Wx hw => ?_) ?_
      · go_simp
        exact ⟨hw, by rw [HCOL.out]⟩
      simp only [Act.put, List.setIfInBounds_toArray, List.set_cons_zero, List.set_cons_succ]
      refine wpInv_cons (.pointer (some ⟨g, k, none⟩)) rfl (fun Wx hw => ?_) ?_
      · go_simp
        exact ⟨hw, rfl⟩
      simp only [Act.put, List.setIfInBounds_toArray, List.set_cons_zero, List.set_cons_succ]
      refine wpInv_nil fun W4 hb4 => ?_
      simp only [List.drop_succ_cons, List.drop_zero]
      have hF4 := HF.out.kept hb4
      have hc1 := hF4.cellC k hlt
      have hf1 := hF4.frC k
      have hc2 := hF4.cellD k hlt
      have hf2 := hF4.frD k
      have HF4 := Lib.hid hF4
      clear HR HU HO HCOL HF hF4
      go_wp2
      go_roundw
      case rel =>
        refine ⟨k + 1, by omega, by go_num, ?_⟩
        rw [wrap_U64]
        have := (HF4.out.setC k (colB k)).setD k (bitB k)
        rw [updR_upTo, updR_upTo] at this
        exact this
      case measure => simp [intOf]; omega
    · have hbk : decide ((k : Int) < 64) = false := by simp; omega
      have HF' := Lib.hid (show FH w g colB bitB wr by
        have h := HF.out
        rw [show k = 64 by omega] at h
        exact ⟨h.bel, h.z4, h.z5, by have := h.hc; rwa [matRow_upTo] at this, by have := h.hd; rwa [matRow_upTo] at this, h.hg⟩)
      clear HF
      go_wp2
      refine wp_world (fun W => FH w g colB bitB W) HF'.out ?_
      clear HF' hlt hk hbk
      intro W5 hF
      have HF := Lib.hid hF
      clear hF
      go_loopw [12, 13, 14, 15] (fun i _ _ _ wr => ∃ k : Nat, k ≤ 64 ∧ i = .int .i64 k ∧ FH w g (elim k (colB, bitB)).1 (elim k (colB, bitB)).2 wr) (fun i _ _ _ _ => 64 - (intOf i).toNat)
      case atStart => exact ⟨0, by omega, rfl, HF.out⟩
      case round =>
        clear HF
        obtain ⟨k, hk, rfl, hF⟩ := hrel
        have HF := Lib.hid hF
        clear hF
        by_cases hlt : k < 64
        · have HE := Lib.hid (show elim (k + 1) (colB, bitB) = elimStep k (elim k (colB, bitB)) from rfl)
          obtain ⟨s, hs⟩ : ∃ s, s = elim k (colB, bitB) := ⟨_, rfl⟩
          rw [← hs] at HE HF
          clear hs
          obtain ⟨c, d⟩ := s
          have hb : decide ((k : Int) < 64) = true := by simp; omega
          have hltI : (k : Int) < 64 := by omega
          go_wp2
          refine wp_world (fun W => FH w g c d W) HF.out ?_
          clear HF
          intro W6 hF
          have HF := Lib.hid hF
          clear hF
          go_loopw [13, 14] (fun p q wr => wr = W6 ∧ ∃ i : Nat, k ≤ i ∧ i ≤ 64 ∧ q = .int .i64 i ∧ ((p = .int .i64 (-1) ∧ findB c k k (64 - k) = findB c k i (64 - i)) ∨ ∃ a : Nat, a < 64 ∧ p = .int .i64 a ∧ findB c k k (64 - k) = some a)) (fun _ q _ => 64 - (intOf q).toNat)
          case atStart => exact ⟨rfl, k, Nat.le_refl _, by omega, rfl, .inl ⟨rfl, rfl⟩⟩
          case round =>
            obtain ⟨rfl, i, hki, hi, rfl, hrel⟩ := hrel
            rcases hrel with ⟨rfl, hfind⟩ | ⟨a', ha, rfl, hfind⟩
            · have HFI := Lib.hid hfind
              clear hfind
              by_cases hi64 : i < 64
              · have hb1 : decide ((i : Int) < 64) = true := by simp; omega
                have hiI : (i : Int) < 64 := by omega
                have hc1 := HF.out.cellC i hi64
                have hs := shr_pow (c i) k
                cases hbit : bitAt (c i) k
                · have ht : (U64 ((c i >>> k) &&& 1#64) == 1) = false := by rw [bit_test, hbit]
                  have HFI2 := Lib.hid (show findB c k k (64 - k) = findB c k (i + 1) (64 - (i + 1)) by
                    rw [HFI.out, show 64 - i = (64 - (i + 1)) + 1 by omega, findB, hbit]; rfl)
                  clear HFI
                  go_wp2
                  go_roundw
                  case rel => exact ⟨trivial, i + 1, by omega, by omega, by go_num, .inl ⟨rfl, HFI2.out⟩⟩
                  case measure => simp [intOf]; omega
                · have ht : (U64 ((c i >>> k) &&& 1#64) == 1) = true := by rw [bit_test, hbit]
                  have HFI2 := Lib.hid (show findB c k k (64 - k) = some i by
                    rw [HFI.out, show 64 - i = (64 - (i + 1)) + 1 by omega, findB, hbit]; rfl)
                  clear HFI
                  go_wp2
                  go_roundw
                  case rel => exact ⟨trivial, i + 1, by omega, by omega, by go_num, .inr ⟨i, hi64, rfl, HFI2.out⟩⟩
                  case measure => simp [intOf]; omega
              · have hb1 : decide ((i : Int) < 64) = false := by simp; omega
                have HFI2 := Lib.hid (show findB c k k (64 - k) = none by
                  rw [HFI.out, show 64 - i = 0 by omega]; rfl)
                clear HFI
                go_wp2
                go_roundw
                case rel =>
                  refine ⟨k + 1, by omega, by go_num, ?_⟩
                  rw [HE.out, elimStep]
                  rw [show findB (c, d).1 k k (64 - k) = none from HFI2.out]
                  exact HF.out
                case measure => simp [intOf]; omega
            · have HFI := Lib.hid hfind
              have hneg : decide ((a' : Int) < 0) = false := by simp
              clear hfind
              have haI : (a' : Int) < 64 := by omega
              by_cases hi64 : i < 64
              case' pos => have hb1 : decide ((i : Int) < 64) = true := by simp; omega
              case' neg => have hb1 : decide ((i : Int) < 64) = false := by simp; omega
              all_goals
              go_wp2
              refine wp_region_late 9 1 (fun W => FH w g c d W) (fun W => FH w g (updR c k (c a')) d W) (by kernel_rfl) (by kernel_rfl) (by kernel_rfl) (fun _ => HF.out.kept ⟨rfl, rfl, rfl, Nat.le_refl _, fun _ _ => rfl⟩) ?_
              clear HF
              simp only [List.take_succ_cons, List.take_zero]
              refine wpInv_cons (.int .i64 k) rfl (fun _ hw => ⟨hw, rfl⟩) ?_
              simp only [Act.put, List.setIfInBounds_toArray, List.set_cons_zero, List.set_cons_succ]
              refine wpInv_cons (.int .i64 a') rfl (fun _ hw => ⟨hw, rfl⟩) ?_
              simp only [Act.put, List.setIfInBounds_toArray, List.set_cons_zero, List.set_cons_succ]
              refine wpInv_cons (.int .i64 a') rfl (fun _ hw => ⟨hw, rfl⟩) ?_
              simp only [Act.put, List.setIfInBounds_toArray, List.set_cons_zero, List.set_cons_succ]
              refine wpInv_cons (.pointer (some ⟨g, a', none⟩)) rfl (fun Wx hw => ?_) ?_
              · go_simp
                exact ⟨hw, rfl⟩
              simp only [Act.put, List.setIfInBounds_toArray, List.set_cons_zero, List.set_cons_succ]
              refine wpInv_cons (.int .u64 (U64 (c a'))) rfl (fun Wx hw => ?_) ?_
              · have hcw := FH.cellC hw a' ha
                go_simp
                exact ⟨hw, rfl⟩
              simp only [Act.put, List.setIfInBounds_toArray, List.set_cons_zero, List.set_cons_succ]
              refine wpInv_cons (.int .i64 k) rfl (fun _ hw => ⟨hw, rfl⟩) ?_
              simp only [Act.put, List.setIfInBounds_toArray, List.set_cons_zero, List.set_cons_succ]
              refine wpInv_cons (.pointer (some ⟨g, k, none⟩)) rfl (fun Wx hw => ?_) ?_
              · go_simp
                exact ⟨hw, rfl⟩
              simp only [Act.put, List.setIfInBounds_toArray, List.set_cons_zero, List.set_cons_succ]
              refine wpInv_cons (.int .u64 (U64 (c k))) rfl (fun Wx hw => ?_) ?_
              · have hcw := FH.cellC hw k hlt
                go_simp
                exact ⟨hw, rfl⟩
              simp only [Act.put, List.setIfInBounds_toArray, List.set_cons_zero, List.set_cons_succ]
              refine wpInv_cons (.pointer (some ⟨g, k, none⟩)) rfl (fun Wx hw => ?_) ?_
              · go_simp
                exact ⟨hw, rfl⟩
              simp only [Act.put, List.setIfInBounds_toArray, List.set_cons_zero, List.set_cons_succ]
              simp only [List.drop_succ_cons, List.drop_zero]
              refine wpInv_nil ⟨rfl, undef, fun WQ hF => ?_, fun WQ hF => ?_⟩
              · have q1 := hF.cellC k hlt
                have q2 := hF.frC k
                go_simp
                exact ⟨hF.setC k (c a'), rfl⟩
              have q3 := hF.cellC a' ha
              have q4 := hF.frC a'
              have hF3 := hF.setC a' (c k)
              rw [swap_upd] at hF3
              have HF := Lib.hid hF3
              clear hF hF3
              go_wp2
              clear q3 q4
              refine wp_region_late 9 1 (fun W => FH w g (swapR c k a') d W) (fun W => FH w g (swapR c k a') (updR d k (d a')) W) (by kernel_rfl) (by kernel_rfl) (by kernel_rfl) (fun _ => HF.out.kept ⟨rfl, rfl, rfl, Nat.le_refl _, fun _ _ => rfl⟩) ?_
              clear HF
              simp only [List.take_succ_cons, List.take_zero]
              refine wpInv_cons (.int .i64 k) rfl (fun _ hw => ⟨hw, rfl⟩) ?_
              simp only [Act.put, List.setIfInBounds_toArray, List.set_cons_zero, List.set_cons_succ]
              refine wpInv_cons (.int .i64 a') rfl (fun _ hw => ⟨hw, rfl⟩) ?_
              simp only [Act.put, List.setIfInBounds_toArray, List.set_cons_zero, List.set_cons_succ]
              refine wpInv_cons (.int .i64 a') rfl (fun _ hw => ⟨hw, rfl⟩) ?_
              simp only [Act.put, List.setIfInBounds_toArray, List.set_cons_zero, List.set_cons_succ]
              refine wpInv_cons (.pointer (some ⟨(g + 1), a', none⟩)) rfl (fun Wx hw => ?_) ?_
              · go_simp
                exact ⟨hw, rfl⟩
              simp only [Act.put, List.setIfInBounds_toArray, List.set_cons_zero, List.set_cons_succ]
              refine wpInv_cons (.int .u64 (U64 (d a'))) rfl (fun Wx hw => ?_) ?_
              · have hcw := FH.cellD hw a' ha
                go_simp
                exact ⟨hw, rfl⟩
              simp only [Act.put, List.setIfInBounds_toArray, List.set_cons_zero, List.set_cons_succ]
              refine wpInv_cons (.int .i64 k) rfl (fun _ hw => ⟨hw, rfl⟩) ?_
              simp only [Act.put, List.setIfInBounds_toArray, List.set_cons_zero, List.set_cons_succ]
              refine wpInv_cons (.pointer (some ⟨(g + 1), k, none⟩)) rfl (fun Wx hw => ?_) ?_
              · go_simp
                exact ⟨hw, rfl⟩
              simp only [Act.put, List.setIfInBounds_toArray, List.set_cons_zero, List.set_cons_succ]
              refine wpInv_cons (.int .u64 (U64 (d k))) rfl (fun Wx hw => ?_) ?_
              · have hcw := FH.cellD hw k hlt
                go_simp
                exact ⟨hw, rfl⟩
              simp only [Act.put, List.setIfInBounds_toArray, List.set_cons_zero, List.set_cons_succ]
              refine wpInv_cons (.pointer (some ⟨(g + 1), k, none⟩)) rfl (fun Wx hw => ?_) ?_
              · go_simp
                exact ⟨hw, rfl⟩
              simp only [Act.put, List.setIfInBounds_toArray, List.set_cons_zero, List.set_cons_succ]
              simp only [List.drop_succ_cons, List.drop_zero]
              refine wpInv_nil ⟨rfl, undef, fun WQ hF => ?_, fun WQ hF => ?_⟩
              · have q1 := hF.cellD k hlt
                have q2 := hF.frD k
                go_simp
                exact ⟨hF.setD k (d a'), rfl⟩
              have q3 := hF.cellD a' ha
              have q4 := hF.frD a'
              have hF3 := hF.setD a' (d k)
              rw [swap_upd] at hF3
              have HF := Lib.hid hF3
              clear hF hF3
              go_wp2
              clear q3 q4
              have HE2 := Lib.hid (show elimStep k (c, d) = (clearR (fun i => i ≠ k && bitAt (swapR c k a' i) k) k (swapR c k a'), clearR (fun i => i ≠ k && bitAt (swapR c k a' i) k) k (swapR d k a')) by
                rw [elimStep, show findB (c, d).1 k k (64 - k) = some a' from HFI.out])
              have HFL := Lib.hid (show ∀ i, (fun i => decide (i ≠ k) && bitAt (swapR c k a' i) k) i = (decide (i ≠ k) && bitAt (swapR c k a' i) k) from fun _ => rfl)
              have HFK := Lib.hid (show (fun i => decide (i ≠ k) && bitAt (swapR c k a' i) k) k = false by simp)
              generalize (fun i => decide (i ≠ k) && bitAt (swapR c k a' i) k) = fl at HFK HE2 HFL
              generalize swapR c k a' = c' at *
              generalize swapR d k a' = d' at *
              refine wp_world (fun W => FH w g (clrTo fl k 0 c') (clrTo fl k 0 d') W) (by rw [clrTo_zero, clrTo_zero]; exact HF.out) ?_
              clear HF HFI
              intro W7 hF
              have HF := Lib.hid hF
              clear hF
              go_loopw [15] (fun p wr => ∃ j : Nat, j ≤ 64 ∧ p = .int .i64 j ∧ FH w g (clrTo fl k j c') (clrTo fl k j d') wr) (fun p _ => 64 - (intOf p).toNat)
              case atStart => exact ⟨0, by omega, rfl, HF.out⟩
              case round =>
              clear HF
              obtain ⟨j, hj, rfl, hF⟩ := hrel
              have HF := Lib.hid hF
              by_cases hj64 : j < 64
              · have hbj : decide ((j : Int) < 64) = true := by simp; omega
                have hjI : (j : Int) < 64 := by omega
                have q0 := hF.cellC j hj64
                rw [clrTo_ge _ _ _ _ _ (Nat.le_refl _)] at q0
                clear hF
                have hs := shr_pow (c' j) k
                by_cases hjk : j = k
                · have e1 : ((j : Int) != (k : Int)) = false := by simp; omega
                  have HFJ := Lib.hid (show fl j = false by rw [hjk]; exact HFK.out)
                  go_wp2
                  go_roundw
                  case rel => exact ⟨j + 1, by omega, by go_num, by rw [clrTo_skip _ _ _ _ HFJ.out, clrTo_skip _ _ _ _ HFJ.out]; exact HF.out⟩
                  case measure => simp [intOf]; omega
                · have e1 : ((j : Int) != (k : Int)) = true := by simp; omega
                  cases hbit : bitAt (c' j) k
                  · have ht : (U64 ((c' j >>> k) &&& 1#64) == 1) = false := by rw [bit_test, hbit]
                    have HFJ := Lib.hid (show fl j = false by rw [HFL.out, hbit]; simp)
                    go_wp2
                    go_roundw
                    case rel => exact ⟨j + 1, by omega, by go_num, by rw [clrTo_skip _ _ _ _ HFJ.out, clrTo_skip _ _ _ _ HFJ.out]; exact HF.out⟩
                    case measure => simp [intOf]; omega
                  · have ht : (U64 ((c' j >>> k) &&& 1#64) == 1) = true := by rw [bit_test, hbit]
                    have HFJ := Lib.hid (show fl j = true by rw [HFL.out, hbit]; simp [hjk])
                    go_wp2
                    refine wp_region_inv 9 (fun W => FH w g (clrTo fl k j c') (clrTo fl k j d') W) (by kernel_rfl) (by kernel_rfl) (fun _ => HF.out.kept ⟨rfl, rfl, rfl, Nat.le_refl _, fun _ _ => rfl⟩) ?_
                    clear HF
                    simp only [List.take_succ_cons, List.take_zero]
                    refine wpInv_cons (.int .i64 j) rfl (fun _ hw => ⟨hw, rfl⟩) ?_
                    simp only [Act.put, List.setIfInBounds_toArray, List.set_cons_zero, List.set_cons_succ]
                    refine wpInv_cons (.int .i64 j) rfl (fun _ hw => ⟨hw, rfl⟩) ?_
                    simp only [Act.put, List.setIfInBounds_toArray, List.set_cons_zero, List.set_cons_succ]
                    refine wpInv_cons (.pointer (some ⟨g, j, none⟩)) rfl (fun Wx hw => ?_) ?_
                    · go_simp
                      exact ⟨hw, rfl⟩
                    simp only [Act.put, List.setIfInBounds_toArray, List.set_cons_zero, List.set_cons_succ]
                    refine wpInv_cons (.int .u64 (U64 (c' j))) rfl (fun Wx hw => ?_) ?_
                    · have hcw := FH.cellC hw j hj64
                      rw [clrTo_ge _ _ _ _ _ (Nat.le_refl _)] at hcw
                      go_simp
                      exact ⟨hw, rfl⟩
                    simp only [Act.put, List.setIfInBounds_toArray, List.set_cons_zero, List.set_cons_succ]
                    refine wpInv_cons (.int .i64 k) rfl (fun _ hw => ⟨hw, rfl⟩) ?_
                    simp only [Act.put, List.setIfInBounds_toArray, List.set_cons_zero, List.set_cons_succ]
                    refine wpInv_cons (.pointer (some ⟨g, k, none⟩)) rfl (fun Wx hw => ?_) ?_
                    · go_simp
                      exact ⟨hw, rfl⟩
                    simp only [Act.put, List.setIfInBounds_toArray, List.set_cons_zero, List.set_cons_succ]
                    refine wpInv_cons (.int .u64 (U64 (c' k))) rfl (fun Wx hw => ?_) ?_
                    · have hcw := FH.cellC hw k hlt
                      rw [clrTo_no _ _ _ _ _ HFK.out] at hcw
                      go_simp
                      exact ⟨hw, rfl⟩
                    simp only [Act.put, List.setIfInBounds_toArray, List.set_cons_zero, List.set_cons_succ]
                    refine wpInv_cons (.int .u64 (U64 (c' j ^^^ c' k))) rfl (fun Wx hw => ?_) ?_
                    · go_simp
                      exact ⟨hw, rfl⟩
                    simp only [Act.put, List.setIfInBounds_toArray, List.set_cons_zero, List.set_cons_succ]
                    refine wpInv_cons (.pointer (some ⟨g, j, none⟩)) rfl (fun Wx hw => ?_) ?_
                    · go_simp
                      exact ⟨hw, rfl⟩
                    simp only [Act.put, List.setIfInBounds_toArray, List.set_cons_zero, List.set_cons_succ]
                    refine wpInv_nil fun WQ hF => ?_
                    simp only [List.drop_succ_cons, List.drop_zero]
                    have q1 := hF.cellC j hj64
                    have q2 := hF.frC j
                    have hF3 := hF.setC j (c' j ^^^ c' k)
                    rw [clrTo_upd _ _ _ _ HFJ.out] at hF3
                    have HF := Lib.hid hF3
                    clear hF hF3
                    go_wp2
                    clear q1 q2
                    refine wp_region_inv 9 (fun W => FH w g (clrTo fl k (j + 1) c') (clrTo fl k j d') W) (by kernel_rfl) (by kernel_rfl) (fun _ => HF.out.kept ⟨rfl, rfl, rfl, Nat.le_refl _, fun _ _ => rfl⟩) ?_
                    clear HF
                    simp only [List.take_succ_cons, List.take_zero]
                    refine wpInv_cons (.int .i64 j) rfl (fun _ hw => ⟨hw, rfl⟩) ?_
                    simp only [Act.put, List.setIfInBounds_toArray, List.set_cons_zero, List.set_cons_succ]
                    refine wpInv_cons (.int .i64 j) rfl (fun _ hw => ⟨hw, rfl⟩) ?_
                    simp only [Act.put, List.setIfInBounds_toArray, List.set_cons_zero, List.set_cons_succ]
                    refine wpInv_cons (.pointer (some ⟨(g + 1), j, none⟩)) rfl (fun Wx hw => ?_) ?_
                    · go_simp
                      exact ⟨hw, rfl⟩
                    simp only [Act.put, List.setIfInBounds_toArray, List.set_cons_zero, List.set_cons_succ]
                    refine wpInv_cons (.int .u64 (U64 (d' j))) rfl (fun Wx hw => ?_) ?_
                    · have hcw := FH.cellD hw j hj64
                      rw [clrTo_ge _ _ _ _ _ (Nat.le_refl _)] at hcw
                      go_simp
                      exact ⟨hw, rfl⟩
                    simp only [Act.put, List.setIfInBounds_toArray, List.set_cons_zero, List.set_cons_succ]
                    refine wpInv_cons (.int .i64 k) rfl (fun _ hw => ⟨hw, rfl⟩) ?_
                    simp only [Act.put, List.setIfInBounds_toArray, List.set_cons_zero, List.set_cons_succ]
                    refine wpInv_cons (.pointer (some ⟨(g + 1), k, none⟩)) rfl (fun Wx hw => ?_) ?_
                    · go_simp
                      exact ⟨hw, rfl⟩
                    simp only [Act.put, List.setIfInBounds_toArray, List.set_cons_zero, List.set_cons_succ]
                    refine wpInv_cons (.int .u64 (U64 (d' k))) rfl (fun Wx hw => ?_) ?_
                    · have hcw := FH.cellD hw k hlt
                      rw [clrTo_no _ _ _ _ _ HFK.out] at hcw
                      go_simp
                      exact ⟨hw, rfl⟩
                    simp only [Act.put, List.setIfInBounds_toArray, List.set_cons_zero, List.set_cons_succ]
                    refine wpInv_cons (.int .u64 (U64 (d' j ^^^ d' k))) rfl (fun Wx hw => ?_) ?_
                    · go_simp
                      exact ⟨hw, rfl⟩
                    simp only [Act.put, List.setIfInBounds_toArray, List.set_cons_zero, List.set_cons_succ]
                    refine wpInv_cons (.pointer (some ⟨(g + 1), j, none⟩)) rfl (fun Wx hw => ?_) ?_
                    · go_simp
                      exact ⟨hw, rfl⟩
                    simp only [Act.put, List.setIfInBounds_toArray, List.set_cons_zero, List.set_cons_succ]
                    refine wpInv_nil fun WQ hF => ?_
                    simp only [List.drop_succ_cons, List.drop_zero]
                    have q1 := hF.cellD j hj64
                    have q2 := hF.frD j
                    have hF3 := hF.setD j (d' j ^^^ d' k)
                    rw [clrTo_upd _ _ _ _ HFJ.out] at hF3
                    have HF := Lib.hid hF3
                    clear hF hF3
                    go_wp2
                    clear q1 q2
                    go_roundw
                    case rel => exact ⟨j + 1, by omega, by go_num, HF.out⟩
                    case measure => simp [intOf]; omega
              · have hbj : decide ((j : Int) < 64) = false := by simp; omega
                have hF' := hF
                rw [show j = 64 by omega] at hF'
                have HF' := Lib.hid (hF'.congr (clrTo_all fl k c') (clrTo_all fl k d'))
                clear hF hF' HF
                go_wp2
                go_roundw
                case rel =>
                  refine ⟨k + 1, by omega, by go_num, ?_⟩
                  rw [HE.out, HE2.out]
                  exact HF'.out
                case measure => simp [intOf]; omega
        · have hbk : decide ((k : Int) < 64) = false := by simp; omega
          have hF' := HF.out
          rw [show k = 64 by omega] at hF'
          have HX := Lib.hid (forge_is l r R HRR.out)
          generalize (elim 64 (colB, bitB)).1 = c at hF'
          generalize (elim 64 (colB, bitB)).2 = d at hF' HX
          have HF' := Lib.hid hF'
          clear hF' HF
          go_wp2
          refine wp_world (fun W => FH w g c d W) HF'.out ?_
          clear HF' hlt hk hbk
          intro W8 hF
          have HF := Lib.hid hF
          clear hF
          rw [← HRR.out]
          go_loopw [11, 16] (fun p q wr => wr = W8 ∧ ∃ j : Nat, j ≤ 64 ∧ q = .int .i64 j ∧ p = .int .u64 (U64 (ofFrom d R j))) (fun _ q _ => 64 - (intOf q).toNat)
          case atStart => exact ⟨rfl, 0, by omega, rfl, rfl⟩
          case round =>
            obtain ⟨rfl, j, hj, rfl, rfl⟩ := hrel
            by_cases hj64 : j < 64
            · have hbj : decide ((j : Int) < 64) = true := by simp; omega
              have hjI : (j : Int) < 64 := by omega
              have hs := shr_pow R j
              have hc1 := HF.out.cellD j hj64
              have HM := Lib.hid (mask_bit (R >>> j))
              have hbt := bit_test R j
              have HBA := Lib.hid (show (R >>> j).getLsbD 0 = bitAt R j by rw [BitVec.getLsbD_ushiftRight, Nat.add_zero]; rfl)
              cases hbit : bitAt R j
              · have ht : (U64 ((R >>> j) &&& 1#64) == 1) = false := by rw [hbt, hbit]
                have HO := Lib.hid (show ofFrom d R (j + 1) = ofFrom d R j by rw [ofFrom, HM.out, HBA.out, hbit]; simp)
                clear hbt
                go_wp2
                go_roundw
                case rel => exact ⟨trivial, j + 1, by omega, by go_num, by rw [HO.out]⟩
                case measure => simp [intOf]; omega
              · have ht : (U64 ((R >>> j) &&& 1#64) == 1) = true := by rw [hbt, hbit]
                have HO := Lib.hid (show ofFrom d R (j + 1) = ofFrom d R j ^^^ d j by rw [ofFrom, HM.out, HBA.out, hbit, if_pos rfl, BitVec.and_allOnes])
                clear hbt
                go_wp2
                go_roundw
                case rel => exact ⟨trivial, j + 1, by omega, by go_num, by rw [HO.out]⟩
                case measure => simp [intOf]; omega
            · have hbj : decide ((j : Int) < 64) = false := by simp; omega
              have HOX := Lib.hid (show ofFrom d R j = forgeX l r by rw [show j = 64 by omega]; exact HX.out)
              rw [HOX.out]
              go_wp2
              refine wp_world (fun W => Below w.heap.size w W ∧ W.heap[w.heap.size]? = some (.cells (outRow 0#64 0) 37) ∧ W.heap[w.heap.size + 1]? = some (.cells (outRow (forgeX l r) 0) 37)) ⟨HF.out.bel, HF.out.z4, HF.out.z5⟩ ?_
              clear HF
              intro W9 ⟨hB, hg0, hg1⟩
              have HB := Lib.hid hB
              have HG0 := Lib.hid hg0
              have HG1 := Lib.hid hg1
              clear hB hg0 hg1
              go_loopw [17] (fun i wr => ∃ k : Nat, k ≤ 8 ∧ i = .int .i64 k ∧ Below w.heap.size w wr ∧ wr.heap[w.heap.size]? = some (.cells (outRow 0#64 0) 37) ∧ wr.heap[w.heap.size + 1]? = some (.cells (outRow (forgeX l r) k) 37)) (fun i _ => 8 - (intOf i).toNat)
              case atStart => exact ⟨0, by omega, rfl, HB.out, HG0.out, HG1.out⟩
              case round =>
                clear HB HG0 HG1
                obtain ⟨k, hk, rfl, hB, hg0, hg1⟩ := hrel
                by_cases hlt : k < 8
                · have hb8 : decide ((k : Int) < 8) = true := by simp; omega
                  have hc1 : wr.cell? ⟨w.heap.size + 1, k, none⟩ = some (.int .u8 (if k < k then U8 (byteAt (forgeX l r) k) else 0)) := by rw [cell_of_row _ _ _ _ _ _ hg1, outRow_get _ _ _ hlt]
                  rw [if_neg (Nat.lt_irrefl k)] at hc1
                  have hf1 := frozen_of_row _ _ k _ _ hg1
                  have HB := Lib.hid hB
                  have HG0 := Lib.hid hg0
                  have HG1 := Lib.hid hg1
                  have HV := Lib.hid (show U8 (byteAt (forgeX l r) k) = U8 (BitVec.ofInt 8 (U64 (forgeX l r) / 2 ^ (8 * k))) from rfl)
                  clear hB hg0 hg1
                  go_wp2
                  go_roundw
                  case rel =>
                    refine ⟨k + 1, by omega, by go_num, HB.out.setCell (by show w.heap.size ≤ w.heap.size + 1; omega) _, ?_, ?_⟩
                    · rw [heap_setCell_other _ _ _ _ (by show w.heap.size ≠ w.heap.size + 1; omega)]; exact HG0.out
                    · rw [heap_setCell_same _ _ _ _ _ _ HG1.out]
                      rw [← HV.out, outRow_set _ _ hlt]
                  case measure => simp [intOf]; omega
                · have HB := Lib.hid hB
                  have HG0 := Lib.hid hg0
                  have hbk : decide ((k : Int) < 8) = false := by simp; omega
                  have HG1 := Lib.hid (show wr.heap[w.heap.size + 1]? = some (.cells (outRow (forgeX l r) 8) 37) by rw [hg1, show k = 8 by omega])
                  clear hB hg0 hg1
                  go_wp2_with (first | (refine wpList_load_row rfl 37 _ rfl (w.heap.size + 1) rfl 37 (outRow (forgeX l r) 8) _ _ HG1.out Try.underlying37 rfl (by rw [outRow_size]; kernel_rfl) ?_) | (refine wpList_store_row rfl 37 _ _ rfl w.heap.size (outRow (forgeX l r) 8) rfl rfl 37 (outRow 0#64 0) HG0.out (by rw [outRow_size]; kernel_rfl) (by rw [outRow_size, outRow_size]) (outRow_one _ _) ?_))
                  refine bodyPost_ret (v := .agg (outRow (forgeX l r) 8)) (results_cell_row rfl _ _ w.heap.size 37 _ _ _ rfl (setRow_heap _ _ _ _ _ _ HG0.out) Try.underlying37 rfl (by rw [outRow_size]; kernel_rfl)) rfl ⟨by rw [outRow_eq], ?_⟩
                  exact below_setRow HB.out (Nat.le_refl _) _
end Go.Proofs.Ytdphcmmpkacmfaa
