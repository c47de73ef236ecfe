/-
  Proved: SumOwn answers true for every input: of memory that was handed in nothing is kept. No condition.
-/
import Derived.Test.YtdphcmmpkacmfaaLe
import Derived.Test.YtdphcmmpkacmfaaReg
import Derived.Test.YtdphcmmpkacmfaaOpen
namespace Go.Proofs.Ytdphcmmpkacmfaa.lawSumOwn
open Go.ChangeShapes Go.WideShapes Go.ChangeAt Go.RowKit Go.K
set_option linter.unusedVariables false
set_option linter.unusedSimpArgs false
attribute [local go_sem] wrap_U8 U8_ofInt

abbrev zero8 : Array Value := #[.int .u8 0, .int .u8 0, .int .u8 0, .int .u8 0, .int .u8 0, .int .u8 0, .int .u8 0, .int .u8 0]
theorem vBs_one (l : List (BitVec 8)) : (vBs l).toArray.all (·.oneCell') = true := by
  rw [Array.all_eq_true]
  intro i hi
  have := oneCell_vBs l (vBs l)[i] (List.getElem_mem _)
  simpa using this
theorem lent_at (a : Option Addr) (n c : Nat) (l : List (BitVec 8)) (w : World) (hn : l.length = n) (hl : n ≤ 140737488351232) (hc : a = none → n = 0 ∧ c = 0) (ha : Sl w a (vBs l)) :
    Calls Try.prog 17 #[.slice a n c] w fun e w' => ∃ g cap, e = .returned (.slice (some ⟨g, 0, none⟩) n cap) ∧ w.heap.size ≤ g ∧ Lent w' l g cap ∧ Below w.heap.size w w' := by
  subst hn; exact lent_any' a c l w hl hc ha
theorem lent_row {w : World} {l : List (BitVec 8)} {g cap : Nat} (h : Lent w l g cap) : ∃ cu : Array Value, w.heap[g]? = some (.cells cu 5 (0, 0)) ∧ cu.size = cap ∧ cu.toList.take l.length = vBs l ∧ l.length + 5 ≤ cap ∧ cap ≤ maxLen := by
  obtain ⟨cur, hh, h1, h2, h3, h4⟩ := h
  refine ⟨cur, hh, h3, ?_, h1, h2⟩
  have := congrArg (List.take l.length) h4
  rw [List.take_take, Nat.min_eq_left (by omega), vBs_append, List.take_left' (vBs_length l)] at this
  exact this
theorem sl_pre {w : World} {g n : Nat} {cu : Array Value} {m : List (BitVec 8)} (h : w.heap[g]? = some (.cells cu 5 (0, 0))) (hm : m.length = n) (ht : cu.toList.take n = vBs m) : Sl w (some ⟨g, 0, none⟩) (vBs m) := fun _ =>
  ⟨g, 0, rfl, fun i hi => by
    rw [vBs_length, hm] at hi
    rw [cell_of_row _ _ _ _ _ _ h, Nat.zero_add, ← ht, List.getElem?_take_of_lt hi, Array.getElem?_toList]⟩
theorem lt_of_row {w : World} {g : Nat} {o : Obj} (h : w.heap[g]? = some o) : g < w.heap.size := (Array.getElem?_eq_some_iff.1 h).1
set_option maxRecDepth 100000 in
set_option maxHeartbeats 1000000 in
theorem walk (a : Option Addr) (c : Nat) (l : List (BitVec 8)) (r : BitVec 64) (t : BitVec 8) (w : World)
   (hs : Sl w a (vBs l)) (hn : l.length ≤ c) (hm : c ≤ 140737488351232) (hz : a = none → l.length = 0 ∧ c = 0) :
    Calls Try.prog 9 #[.slice a l.length c, .int .u64 (U64 r), .int .u8 (U8 t)] w fun e w' => e = .returned (.bool true) ∧ Below w.heap.size w w' := by
  have HA := Lib.hid hs
  have HZ := Lib.hid hz
  clear hs hz
  go_enter Try.func9, Try.ntmps9
  go_wp2_with fail
  refine (awake_any _).mono ?_
  rintro e w1 ⟨rfl, hb1⟩
  go_wp2_with fail
  refine (lent_any' a c l _ (by omega) HZ.out (HA.out.kept hb1)).mono ?_
  rintro e w2 ⟨g1, cap, rfl, hg1, hl1, hb⟩
  have hB1 := Lib.hid (Nat.le_trans hb1.size hg1)
  have hb2 := hb1.trans (hb.mono hb1.size)
  have HL := Lib.hid hl1
  obtain ⟨_, _, _, _, hcap1, hcap2⟩ := (lent_row hl1)
  clear hb hb1 hl1 hg1
  go_wp2_with fail
  refine (sum_at _ l.length cap l _ rfl (by unfold maxLen; omega) HL.out.sl).mono ?_
  rintro e w3 ⟨rfl, hb⟩
  have hb3 := hb2.trans (hb.mono hb2.size)
  have HL3 := Lib.hid (HL.out.kept hb)
  clear hb hb2 HL
  go_wp2_with fail
  refine (update_at r _ l.length cap l _ rfl (by unfold maxLen; omega) HL3.out.sl).mono ?_
  rintro e w4 ⟨rfl, hb⟩
  have hb4 := hb3.trans (hb.mono hb3.size)
  have HL4 := Lib.hid (HL3.out.kept hb)
  clear hb hb3 HL3
  go_wp2_with fail
  refine (forge8 (U64 r) r rfl _ l.length cap l _ rfl (by unfold maxLen; omega) HL4.out.sl).mono ?_
  rintro e w5 ⟨rfl, hb⟩
  have hb5 := hb4.trans (hb.mono hb4.size)
  have hl5 := HL4.out.kept hb
  have hg5 := lt_of_row (lent_row hl5).choose_spec.1
  clear hb hb4 HL4
  have hlF := bytesN_length 8 (forgeX l r)
  have HFC := Lib.hid (show ∀ (g cp : Nat) (W : World), Lent W l g cp → Calls Try.prog 21 #[.slice (some ⟨g, 0, none⟩) l.length cp, .int .u64 (U64 r)] W fun e w' => e = .returned (.agg (vBs (bytesN 8 (forgeX l r))).toArray) ∧ Below W.heap.size W w' from
    fun g cp W h => forge8 (U64 r) r rfl _ l.length cp l W rfl (by unfold maxLen; omega) h.sl)
  generalize bytesN 8 (forgeX l r) = F at hlF HFC ⊢
  have HS8 := Lib.hid (show (Try.prog.info? 37).map (·.size) = some (vBs F).toArray.size by rw [List.size_toArray, vBs_length, hlF]; kernel_rfl)
  have HS8' := Lib.hid (show zero8.size = (vBs F).toArray.size by show 8 = _; rw [List.size_toArray, vBs_length, hlF])
  obtain ⟨W3, hW3⟩ : ∃ W3, W3 = (w5.alloc (.cells #[.int .u8 0, .int .u8 0, .int .u8 0, .int .u8 0, .int .u8 0, .int .u8 0, .int .u8 0, .int .u8 0] 37)).setRow w5.heap.size (vBs F).toArray := ⟨_, rfl⟩
  have HW3 := Lib.hid hW3
  have hb6 : Below w.heap.size w W3 := by rw [hW3]; exact below_setRow (hb5.alloc hb5.size _) hb5.size _
  have hL6 : Lent W3 l g1 cap := by
    obtain ⟨cur, hh, h1⟩ := hl5
    exact ⟨cur, by rw [hW3, setRow_other _ _ _ _ (by omega), heap_alloc_old _ _ hg5]; exact hh, h1⟩
  have hF6 : W3.heap[w5.heap.size]? = some (.cells (vBs F).toArray 37) := by rw [hW3]; exact setRow_heap _ _ _ _ _ _ (heap_alloc_new _ _)
  have HF6 := Lib.hid hF6
  have HL6 := Lib.hid hL6
  have HB6 := Lib.hid hb6
  have H56 := Lib.hid (Nat.le_trans hB1.out (Nat.le_of_lt hg5))
  clear hW3 hb5 hl5 hL6 hb6 hF6
  go_wp2_with (refine wpList_store_row rfl 37 _ _ rfl w5.heap.size (vBs F).toArray rfl rfl 37 zero8 (heap_alloc_new _ _) HS8.out HS8'.out (vBs_one _) ?_; rw [← HW3.out])
  refine (new_any _).mono ?_
  rintro e w7 ⟨rfl, hw7⟩
  have hz6 := lt_of_row HF6.out
  have hz6' := lt_of_row (lent_row HL6.out).choose_spec.1
  have hb67 : Below W3.heap.size W3 w7 := by rw [hw7]; exact (Below.refl _ _).alloc (Nat.le_refl _) _
  have HB7 := Lib.hid (HB6.out.trans (hb67.mono HB6.out.size))
  have HL7 := Lib.hid (HL6.out.kept hb67)
  have HF7 := Lib.hid ((hb67.block _ hz6).trans HF6.out)
  have HS7 := Lib.hid (show w7.heap[W3.heap.size]? = some (.cells (strRow 0#64 0) 71) by rw [hw7]; exact heap_alloc_new _ _)
  have hBW := HB6.out.size
  clear hw7 hb67 HL6 HF6 HB6 HW3 HS8 HS8'
  generalize W3.heap.size = g3 at *
  generalize w5.heap.size = g2 at *
  go_wp2_with fail
  refine (write_at g3 0#64 0 _ l.length cap l _ HS7.out rfl (by unfold maxLen; omega) (by omega) HL7.out.sl).mono ?_
  rintro e w8 ⟨rfl, hgr, hS8⟩
  have HB8 := Lib.hid (below_grown HB7.out hgr HB7.out.size hBW)
  have HF8 := Lib.hid ((hgr.block _ (lt_of_row HF7.out) (fun e => by injection e; omega)).trans HF7.out)
  have HS8 := Lib.hid hS8
  obtain ⟨cu0, hcu0, hcs0, hct0, _, _⟩ := lent_row HL7.out
  have hcu8 := (hgr.block _ (lt_of_row hcu0) (fun e => by injection e; omega)).trans hcu0
  clear hgr hS8 HB7 HF7 HS7 HL7 hcu0
  have HC := Lib.hid hcu8
  have hg12 := Lib.hid (show g1 ≠ g2 ∧ g1 ≠ g3 ∧ g2 ≠ g3 by omega)
  clear hcu8
  have HCS := Lib.hid hcs0
  have HCT := Lib.hid hct0
  have hsum : updB 0#64 l = updB 0#64 l := rfl
  rw [show (0 : Nat) + l.length = l.length from Nat.zero_add _] at HS8
  clear hcs0 hct0 hsum
  have hB1' := hB1.out
  go_wp2
  go_loopw [12] (fun i wr => ∃ (k : Nat) (m : List (BitVec 8)) (cu : Array Value), k ≤ l.length ∧ i = .int .i64 k ∧ m.length = l.length ∧ wr.heap[g1]? = some (.cells cu 5 (0, 0)) ∧ cu.size = cap ∧ cu.toList.take l.length = vBs m ∧
      Below w.heap.size w wr ∧ wr.heap[g2]? = some (.cells (vBs F).toArray 37) ∧ wr.heap[g3]? = some (.cells (strRow (updB 0#64 l) l.length) 71)) (fun i _ => l.length - (intOf i).toNat)
  case atStart => exact ⟨0, l, cu0, by omega, rfl, rfl, HC.out, HCS.out, HCT.out, HB8.out, HF8.out, HS8.out⟩
  case round =>
    clear HC HCS HCT HB8 HF8 HS8
    obtain ⟨k, m, cu, hk, rfl, hml, hh, hcs, htk, hB, hF, hS⟩ := hrel
    by_cases hlt : k < l.length
    · have hb1 : decide ((k : Int) < (l.length : Int)) = true := by simp; omega
      obtain ⟨y, hy⟩ : ∃ y, m[k]? = some y := ⟨_, List.getElem?_eq_getElem (by omega)⟩
      have hcu : cu[k]? = some (.int .u8 (U8 y)) := by
        have := congrArg (fun z => z[k]?) htk
        rw [List.getElem?_take_of_lt hlt, Array.getElem?_toList] at this
        rw [this]; simp [vBs, hy, vB]
      have hc1 : wr.cell? ⟨g1, k, none⟩ = some (.int .u8 (U8 y)) := by rw [cell_of_row _ _ _ _ _ _ hh, hcu]
      have hf1 := frozen_of_row _ _ k _ _ hh
      have i1 : (k : Int) < (cap : Int) := by omega
      have HG := Lib.hid hh
      have HS := Lib.hid hS
      have HF := Lib.hid hF
      have HB := Lib.hid hB
      have HCS := Lib.hid hcs
      have HT := Lib.hid (show ∀ b : BitVec 8, (cu.setIfInBounds k (.int .u8 (U8 b))).toList.take l.length = vBs (m.set k b) from fun b => by
        rw [Array.toList_setIfInBounds, List.take_set, htk, vBs_set])
      have HML := Lib.hid hml
      clear hh hS hF hB hcs htk hcu hml
      go_wp2
      go_roundw
      case rel =>
        refine ⟨k + 1, _, _, by omega, by go_num, ?_, heap_setCell_same _ _ _ _ _ _ HG.out, by rw [Array.size_setIfInBounds]; exact HCS.out, HT.out _, HB.out.setCell hB1' _, ?_, ?_⟩
        · rw [List.length_set]; exact HML.out
        · rw [heap_setCell_other _ _ _ _ (by show g2 ≠ g1; exact hg12.out.1.symm)]; exact HF.out
        · rw [heap_setCell_other _ _ _ _ (by show g3 ≠ g1; exact hg12.out.2.1.symm)]; exact HS.out
      case measure => simp [intOf]; omega
    · have hbk : decide ((k : Int) < (l.length : Int)) = false := by simp; omega
      have HM := Lib.hid (show Sl wr (some ⟨g1, 0, none⟩) (vBs m) from sl_pre hh hml htk)
      have HML := Lib.hid hml
      have HF := Lib.hid hF
      have HS := Lib.hid hS
      clear hh hcs htk hF hS hml
      go_wp2_with fail
      refine (lent_at (some ⟨g1, 0, none⟩) l.length cap m _ HML.out (by omega) (fun h => by cases h) HM.out).mono ?_
      rintro e w9 ⟨gn, cn, rfl, _, hln, hb⟩
      have hb9 := hB.trans (hb.mono hB.size)
      have HM9 := Lib.hid (HM.out.kept hb)
      have HF9 := Lib.hid ((hb.block _ (lt_of_row HF.out)).trans HF.out)
      have HS9 := Lib.hid ((hb.block _ (lt_of_row HS.out)).trans HS.out)
      have HN := Lib.hid hln
      clear hb hB HM HF HS hln
      go_wp2_with fail
      refine (lent_any' a c l _ (by omega) HZ.out (HA.out.kept hb9)).mono ?_
      rintro e w10 ⟨gw, cw, rfl, _, hlw, hb⟩
      have hb10 := hb9.trans (hb.mono hb9.size)
      have HM10 := Lib.hid (HM9.out.kept hb)
      have HN10 := Lib.hid (HN.out.kept hb)
      have HF10 := Lib.hid ((hb.block _ (lt_of_row HF9.out)).trans HF9.out)
      have HS10 := Lib.hid ((hb.block _ (lt_of_row HS9.out)).trans HS9.out)
      have HW10 := Lib.hid hlw
      have HB10 := Lib.hid hb10
      clear hb hb9 HM9 HN HF9 HS9 hlw hb10
      have hmax : l.length ≤ maxLen := by unfold maxLen; omega
      obtain ⟨Z, hZ⟩ : ∃ Z, Z = bytesN 8 (forgeX m r) := ⟨_, rfl⟩
      have hlZ : Z.length = 8 := by rw [hZ]; exact bytesN_length _ _
      have SI := Lib.hid (show ∀ W, Below w10.heap.size w10 W → Calls Try.prog 16 #[.slice (some ⟨g1, 0, none⟩) l.length cap] W fun e w' => e = .returned (.int .u64 (U64 (updB 0#64 m))) ∧ Below w10.heap.size w10 w' from
        fun W hW => onto (sum_at _ l.length cap m W HML.out hmax (HM10.out.kept hW)) hW)
      have SN := Lib.hid (show ∀ W, Below w10.heap.size w10 W → Calls Try.prog 16 #[.slice (some ⟨gn, 0, none⟩) l.length cn] W fun e w' => e = .returned (.int .u64 (U64 (updB 0#64 m))) ∧ Below w10.heap.size w10 w' from
        fun W hW => onto (sum_at _ l.length cn m W HML.out hmax (HN10.out.sl.kept hW)) hW)
      have UI := Lib.hid (show ∀ W, Below w10.heap.size w10 W → Calls Try.prog 19 #[.int .u64 (U64 r), .slice (some ⟨g1, 0, none⟩) l.length cap] W fun e w' => e = .returned (.int .u64 (U64 (updB r m))) ∧ Below w10.heap.size w10 w' from
        fun W hW => onto (update_at r _ l.length cap m W HML.out hmax (HM10.out.kept hW)) hW)
      have UN := Lib.hid (show ∀ W, Below w10.heap.size w10 W → Calls Try.prog 19 #[.int .u64 (U64 r), .slice (some ⟨gn, 0, none⟩) l.length cn] W fun e w' => e = .returned (.int .u64 (U64 (updB r m))) ∧ Below w10.heap.size w10 w' from
        fun W hW => onto (update_at r _ l.length cn m W HML.out hmax (HN10.out.sl.kept hW)) hW)
      have FI := Lib.hid (show ∀ W, Below w10.heap.size w10 W → Calls Try.prog 21 #[.slice (some ⟨g1, 0, none⟩) l.length cap, .int .u64 (U64 r)] W fun e w' => e = .returned (.agg (vBs Z).toArray) ∧ Below w10.heap.size w10 w' from
        fun W hW => onto (by rw [hZ]; exact forge8 (U64 r) r rfl _ l.length cap m W HML.out hmax (HM10.out.kept hW)) hW)
      have FN := Lib.hid (show ∀ W, Below w10.heap.size w10 W → Calls Try.prog 21 #[.slice (some ⟨gn, 0, none⟩) l.length cn, .int .u64 (U64 r)] W fun e w' => e = .returned (.agg (vBs Z).toArray) ∧ Below w10.heap.size w10 w' from
        fun W hW => onto (by rw [hZ]; exact forge8 (U64 r) r rfl _ l.length cn m W HML.out hmax (HN10.out.sl.kept hW)) hW)
      have SW := Lib.hid (show ∀ W, Below w10.heap.size w10 W → Calls Try.prog 16 #[.slice (some ⟨gw, 0, none⟩) l.length cw] W fun e w' => e = .returned (.int .u64 (U64 (updB 0#64 l))) ∧ Below w10.heap.size w10 w' from
        fun W hW => onto (sum_at _ l.length cw l W rfl hmax (HW10.out.sl.kept hW)) hW)
      have UW := Lib.hid (show ∀ W, Below w10.heap.size w10 W → Calls Try.prog 19 #[.int .u64 (U64 r), .slice (some ⟨gw, 0, none⟩) l.length cw] W fun e w' => e = .returned (.int .u64 (U64 (updB r l))) ∧ Below w10.heap.size w10 w' from
        fun W hW => onto (update_at r _ l.length cw l W rfl hmax (HW10.out.sl.kept hW)) hW)
      have FW := Lib.hid (show ∀ W, Below w10.heap.size w10 W → Calls Try.prog 21 #[.slice (some ⟨gw, 0, none⟩) l.length cw, .int .u64 (U64 r)] W fun e w' => e = .returned (.agg (vBs F).toArray) ∧ Below w10.heap.size w10 w' from
        fun W hW => onto (HFC.out gw cw W (HW10.out.kept hW)) hW)
      have SS := Lib.hid (show ∀ W, Below w10.heap.size w10 W → Calls Try.prog 32 #[.pointer (some ⟨g3, 0, none⟩)] W fun e w' => e = .returned (.int .u64 (U64 (updB 0#64 l))) ∧ Below w10.heap.size w10 w' from
        fun W hW => onto_same (ssum_any g3 _ _ W ((hW.block _ (lt_of_row HS10.out)).trans HS10.out)) hW)
      have HROW := Lib.hid (show ∀ W, Below w10.heap.size w10 W → W.heap[g2]? = some (.cells (vBs F).toArray 37) from fun W hW => (hW.block _ (lt_of_row HF10.out)).trans HF10.out)
      have HSF := Lib.hid (show (Try.prog.info? 37).map (·.size) = some (vBs F).toArray.size by rw [List.size_toArray, vBs_length, hlF]; kernel_rfl)
      have HEQF := Lib.hid (show ∀ W, (Op.equalIn 10000 37 (.agg (vBs F).toArray) (.agg (vBs F).toArray)).run Try.prog W = .ok true W from fun W => by rw [run_eq8 F F hlF hlF W]; simp)
      have heqZ : ∀ W, (Op.equalIn 10000 37 (.agg (vBs Z).toArray) (.agg (vBs Z).toArray)).run Try.prog W = .ok true W := fun W => by rw [run_eq8 Z Z hlZ hlZ W]; simp
      have hB0 : Below w10.heap.size w10 w10 := Below.refl _ _
      clear hZ HM10 HN10 HW10 HF10 HS10
      have hs1 : (U64 (updB 0#64 m) != U64 (updB 0#64 m)) = false := by simp
      have hs2 : (U64 (updB r m) != U64 (updB r m)) = false := by simp
      go_wp2_with (first
        | (go_at_call 16; with_reducible refine (SI.out _ (by assumption)).mono ?_; rintro e w' ⟨rfl, hb⟩)
        | (go_at_call 16; with_reducible refine (SN.out _ (by assumption)).mono ?_; rintro e w' ⟨rfl, hb⟩)
        | (go_at_call 19; with_reducible refine (UI.out _ (by assumption)).mono ?_; rintro e w' ⟨rfl, hb⟩)
        | (go_at_call 19; with_reducible refine (UN.out _ (by assumption)).mono ?_; rintro e w' ⟨rfl, hb⟩)
        | (go_at_call 21; with_reducible refine (FI.out _ (by assumption)).mono ?_; rintro e w' ⟨rfl, hb⟩)
        | (go_at_call 21; with_reducible refine (FN.out _ (by assumption)).mono ?_; rintro e w' ⟨rfl, hb⟩))

      refine wp_region_inv 24 (fun W => Below w10.heap.size w10 W) (by kernel_rfl) (by kernel_rfl) (fun _ => hb.trans ⟨rfl, rfl, rfl, Nat.le_refl _, fun _ _ => rfl⟩) ?_
      simp only [List.take_succ_cons, List.take_zero]
      clear hs1 hs2 heqZ
      refine wpInv_cons (.slice (some ⟨gw, 0, none⟩) l.length cw) rfl (fun _ hw => ⟨hw, rfl⟩) ?_
      simp only [Act.put, List.setIfInBounds_toArray, List.set_cons_zero, List.set_cons_succ]
      refine wpInv_cons (.int .u64 (U64 (updB 0#64 l))) rfl (fun Wx hw => ?_) ?_
      · go_simp
        show Calls _ _ _ _ _
        exact SW.out _ hw
      simp only [Act.put, List.setIfInBounds_toArray, List.set_cons_zero, List.set_cons_succ]
      refine wpInv_cons (.int .u64 (U64 (updB 0#64 l))) rfl (fun _ hw => ⟨hw, rfl⟩) ?_
      simp only [Act.put, List.setIfInBounds_toArray, List.set_cons_zero, List.set_cons_succ]
      refine wpInv_cons (.bool true) rfl (fun Wx hw => ?_) ?_
      · go_simp
        exact ⟨hw, by simp⟩
      simp only [Act.put, List.setIfInBounds_toArray, List.set_cons_zero, List.set_cons_succ]
      refine wpInv_cons (.bool true) rfl (fun _ hw => ⟨hw, rfl⟩) ?_
      simp only [Act.put, List.setIfInBounds_toArray, List.set_cons_zero, List.set_cons_succ]
      refine wpInv_cons (.int .u64 (U64 r)) rfl (fun _ hw => ⟨hw, rfl⟩) ?_
      simp only [Act.put, List.setIfInBounds_toArray, List.set_cons_zero, List.set_cons_succ]
      refine wpInv_cons (.slice (some ⟨gw, 0, none⟩) l.length cw) rfl (fun _ hw => ⟨hw, rfl⟩) ?_
      simp only [Act.put, List.setIfInBounds_toArray, List.set_cons_zero, List.set_cons_succ]
      refine wpInv_cons (.int .u64 (U64 (updB r l))) rfl (fun Wx hw => ?_) ?_
      · go_simp
        show Calls _ _ _ _ _
        exact UW.out _ hw
      simp only [Act.put, List.setIfInBounds_toArray, List.set_cons_zero, List.set_cons_succ]
      refine wpInv_cons (.int .u64 (U64 (updB r l))) rfl (fun _ hw => ⟨hw, rfl⟩) ?_
      simp only [Act.put, List.setIfInBounds_toArray, List.set_cons_zero, List.set_cons_succ]
      refine wpInv_cons (.bool true) rfl (fun Wx hw => ?_) ?_
      · go_simp
        exact ⟨hw, by simp⟩
      simp only [Act.put, List.setIfInBounds_toArray, List.set_cons_zero, List.set_cons_succ]
      refine wpInv_cons (.bool true) rfl (fun _ hw => ⟨hw, rfl⟩) ?_
      simp only [Act.put, List.setIfInBounds_toArray, List.set_cons_zero, List.set_cons_succ]
      refine wpInv_cons (.bool true) rfl (fun _ hw => ⟨hw, rfl⟩) ?_
      simp only [Act.put, List.setIfInBounds_toArray, List.set_cons_zero, List.set_cons_succ]
      refine wpInv_cons (.slice (some ⟨gw, 0, none⟩) l.length cw) rfl (fun _ hw => ⟨hw, rfl⟩) ?_
      simp only [Act.put, List.setIfInBounds_toArray, List.set_cons_zero, List.set_cons_succ]
      refine wpInv_cons (.int .u64 (U64 r)) rfl (fun _ hw => ⟨hw, rfl⟩) ?_
      simp only [Act.put, List.setIfInBounds_toArray, List.set_cons_zero, List.set_cons_succ]
      refine wpInv_cons (.agg (vBs F).toArray) rfl (fun Wx hw => ?_) ?_
      · go_simp
        show Calls _ _ _ _ _
        exact FW.out _ hw
      simp only [Act.put, List.setIfInBounds_toArray, List.set_cons_zero, List.set_cons_succ]
      refine wpInv_cons (.agg (vBs F).toArray) rfl (fun Wx hw => inv_load_row 37 _ rfl _ rfl 37 _ _ _ (HROW.out _ hw) Try.underlying37 rfl HSF.out hw) ?_
      simp only [Act.put, List.setIfInBounds_toArray, List.set_cons_zero, List.set_cons_succ]
      refine wpInv_cons (.bool true) rfl (fun Wx hw => ?_) ?_
      · go_simp
        rw [HEQF.out]
        exact ⟨hw, rfl⟩
      simp only [Act.put, List.setIfInBounds_toArray, List.set_cons_zero, List.set_cons_succ]
      refine wpInv_cons (.bool true) rfl (fun _ hw => ⟨hw, rfl⟩) ?_
      simp only [Act.put, List.setIfInBounds_toArray, List.set_cons_zero, List.set_cons_succ]
      refine wpInv_cons (.bool true) rfl (fun _ hw => ⟨hw, rfl⟩) ?_
      simp only [Act.put, List.setIfInBounds_toArray, List.set_cons_zero, List.set_cons_succ]
      refine wpInv_cons (.pointer (some ⟨g3, 0, none⟩)) rfl (fun _ hw => ⟨hw, rfl⟩) ?_
      simp only [Act.put, List.setIfInBounds_toArray, List.set_cons_zero, List.set_cons_succ]
      refine wpInv_cons (.int .u64 (U64 (updB 0#64 l))) rfl (fun Wx hw => ?_) ?_
      · go_simp
        show Calls _ _ _ _ _
        exact SS.out _ hw
      simp only [Act.put, List.setIfInBounds_toArray, List.set_cons_zero, List.set_cons_succ]
      refine wpInv_cons (.int .u64 (U64 (updB 0#64 l))) rfl (fun _ hw => ⟨hw, rfl⟩) ?_
      simp only [Act.put, List.setIfInBounds_toArray, List.set_cons_zero, List.set_cons_succ]
      refine wpInv_cons (.bool true) rfl (fun Wx hw => ?_) ?_
      · go_simp
        exact ⟨hw, by simp⟩
      simp only [Act.put, List.setIfInBounds_toArray, List.set_cons_zero, List.set_cons_succ]
      refine wpInv_cons (.bool true) rfl (fun _ hw => ⟨hw, rfl⟩) ?_
      simp only [Act.put, List.setIfInBounds_toArray, List.set_cons_zero, List.set_cons_succ]
      refine wpInv_nil fun W hW => ?_
      simp only [List.drop_succ_cons, List.drop_zero]
      go_wp2
      go_ret
      exact ⟨rfl, HB10.out.trans (hW.mono HB10.out.size)⟩
theorem own : ownKnob Try.prog.godebug = none := by kernel_rfl
theorem laidOut : laidOutB Try.prog = true := by kernel_rfl
set_option maxRecDepth 100000 in
theorem lifted (os : Os) (started : os.Started) (H : Type) (enc : TypeId × Value → H) :
    ReturnsInHanded {} Try.checked os 9 .any (Rows.sumOwnSpec.pre6 enc Try.prog Try.f9 Rows.sumOwnRow.domain false) (Rows.sumOwnSpec.post enc Try.prog Try.f9 false true false false) := by
  refine returnsInHanded_of_change_sized (C := Try.checked) own started (by kernel_rfl) Try.func9
    (ChangeSpec.witness6 (enc := enc) (C := Try.checked) false ⟨#[], #[.slice none 0 0, .int .u64 0, .int .u8 0], []⟩ 8 (by kernel_rfl) (by kernel_rfl) (by kernel_rfl) (by kernel_rfl)) ?_
  intro W base args ds gs before hval0 hW hcnd hsz0 _
  have hsz : (DataW.weightsEach Try.prog (Try.f9.params.toList ++ Rows.sumOwnSpec.plain.varTypes Try.prog) (ds ++ gs)).all (· ≤ reachBytes) = true := hsz0
  clear hsz0
  have hval : ∀ (j : Nat) t v, Try.f9.params[j]? = some t → args[j]? = some v → Value.okWide Try.prog W .any base t v := hval0
  have hW' := hW
  obtain ⟨p, q, hA0, hV, rfl, hfz, hnd⟩ := hW
  have hA : DataW.TrodAll enc Try.prog W 0 (fun _ => true) true Try.f9.params.toList args.toList ds p := hA0
  rw [Try.params9] at hA hval hsz
  obtain ⟨v0, vs0, d0, ds0, p0, q0, hargs, rfl, rfl, h0, r0⟩ := trodAll_cons hA
  obtain ⟨v1, vs1, d1, ds1, p1, q1, rfl, rfl, rfl, h1, r1⟩ := trodAll_cons r0
  obtain ⟨v2, vs2, d2, ds2, p2, q2, rfl, rfl, rfl, h2, r2⟩ := trodAll_cons r1
  obtain ⟨rfl, rfl, rfl⟩ := trodAll_nil r2
  obtain rfl : args = #[v0, v1, v2] := by cases args; simp_all
  obtain ⟨rfl, rfl⟩ := trodVars_none hV
  obtain ⟨a0, len0, cap0, rfl⟩ := okWide_slice Try.underlying29 (hval 0 29 v0 rfl rfl)
  have k0 := h0
  have lt0 : ∀ x ∈ p0, x.block < W.heap.size := by obtain ⟨m, hm⟩ := k0; exact DataW.trod_lt m _ _ _ hm
  obtain ⟨l0, rfl, s0, n0, m0, z0⟩ := open_bytes Try.underlying29 Try.underlying5 (by kernel_rfl) (by kernel_rfl) h0 hsz (j := 0) rfl rfl
  obtain ⟨a1, rfl, rfl, rfl, w1⟩ := open_int Try.underlying22 (hval 1 22 v1 rfl rfl) h1
  obtain ⟨x1, rfl⟩ := u64_of_wf w1
  obtain ⟨a2, rfl, rfl, rfl, w2⟩ := open_int Try.underlying5 (hval 2 5 v2 rfl rfl) h2
  obtain ⟨x2, rfl⟩ := u8_of_wf w2
  clear hA0 hval0
  refine (walk a0 cap0 l0 x1 x2 W s0 n0 m0 z0).mono fun e W' ⟨he, bel⟩ => ?_
  subst he
  exact ⟨_, rfl, _, _, _, [], _, [], hW', trodAll_mk1 (shut_bool Try.underlying4 _), (trodAll_cons_mk (Below.trod laidOut (by kernel_rfl) (of_decide_eq_true (by kernel_rfl)) k0 bel lt0) (trodAll_cons_mk (shut_int Try.underlying22 w1) (trodAll_cons_mk (shut_int Try.underlying5 w2) trodAll_mk0))), rfl, bel.frame _, fun h => by cases h⟩
theorem over : Rows.sumOwnRow.holds Try.pinned (OpenSpec.ofChange Rows.sumOwnSpec) :=
  OpenClaim.holds_of_wide 9 Try.f9 rfl rfl rfl rfl rfl rfl rfl ⟨rfl, rfl, rfl, rfl, rfl⟩ rfl rfl rfl rfl rfl (by kernel_rfl) Try.func9 (by kernel_rfl)
    (of_decide_eq_true (by kernel_rfl)) (by unfold Func.isWrapper; first | (rw [if_pos (by decide +kernel)]; kernel_rfl) | (rw [if_neg (by decide +kernel)]; exact ⟨rfl, rfl⟩))
    (fun os started H enc _ => lifted os started H enc)
theorem proved : Rows.SumOwnSaid := over
#print axioms proved
end Go.Proofs.Ytdphcmmpkacmfaa.lawSumOwn
