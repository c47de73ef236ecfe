/-
  Proved: SumForged answers true for every input: eight bytes put behind any text give it any sum, others than these another one. No condition.
-/
import Derived.Test.YtdphcmmpkacmfaaLe
import Derived.Test.YtdphcmmpkacmfaaReg
import Derived.Test.YtdphcmmpkacmfaaOpen
namespace Go.Proofs.Ytdphcmmpkacmfaa.lawSumForged
open Go.ChangeShapes Go.WideShapes Go.ChangeAt Go.RowKit Go.K
set_option linter.unusedVariables false
set_option linter.unusedSimpArgs false

abbrev zero8 : Array Value := #[.int .u8 0, .int .u8 0, .int .u8 0, .int .u8 0, .int .u8 0, .int .u8 0, .int .u8 0, .int .u8 0]
theorem sl_row {w : World} {g : Nat} {l : List (BitVec 8)} {t : TypeId} (h : w.heap[g]? = some (.cells (vBs l).toArray t)) : Sl w (some ⟨g, 0, none⟩) (vBs l) := fun _ =>
  ⟨g, 0, rfl, fun i _ => by rw [cell_of_row _ _ _ _ _ _ h, Nat.zero_add]; simp⟩
theorem owns_slice {w : World} {base n : Nat} {v : Value} {xs : List Value} (h : w.ownsRow base 5 1 v n xs) : ∃ ad cap, v = .slice ad n cap ∧ n ≤ cap ∧ Sl w ad xs := by
  rcases h.2 with ⟨hv, h0⟩ | ⟨g, cap, cur, hv, hg, hh, hn, hcm, hcs, htk⟩
  · subst h0; exact ⟨none, 0, hv, by omega, by rw [hv] at h; exact owns_sl h⟩
  · exact ⟨_, cap, hv, hn, by rw [hv] at h; exact owns_sl h⟩
theorem inj8 (l F G : List (BitVec 8)) (hF : F.length = 8) (hG : G.length = 8) (h : updB 0#64 (l ++ F) = updB 0#64 (l ++ G)) : F = G := by
  have eF := bytesN_num F (by omega)
  have eG := bytesN_num G (by omega)
  rw [hF] at eF
  rw [hG] at eG
  rw [← eF, ← eG] at h ⊢
  rw [updB_append, updB_append] at h
  unfold updB at h
  rw [takeL_eight, takeL_eight] at h
  have h2 : ∀ x y : BitVec 64, ~~~ x = ~~~ y → x = y := fun x y e => by
    have := congrArg (fun z => ~~~ z) e
    simpa using this
  have h3 := iterB_inj 64 (h2 _ _ h)
  rw [(BitVec.xor_right_inj _).1 h3]
theorem has_u8 (n : Int) (h : IntKind.u8.has n) : 0 ≤ n ∧ n ≤ 255 := by
  simpa [IntKind.has, IntKind.min, IntKind.max, IntKind.signed, IntKind.bits] using h
theorem vBs_one (l : List (BitVec 8)) : (vBs l).toArray.all (·.oneCell') = true := by
  rw [Array.all_eq_true]
  intro i hi
  have := oneCell_vBs l (vBs l)[i] (List.getElem_mem _)
  simpa using this
theorem open_row8 {P : Program} {w : World} {r : Reach} {base : Nat} {t e : TypeId} {v : Value} (ht : P.underlying t = some (.array 8 e)) (he : P.underlying e = some (.int .u8)) (hc : P.cellsOf t = 8)
    (hct : P.cellTypes P.depth t = some (List.replicate 8 e)) (h : Value.okWide P w r base t v) : ∃ l : List (BitVec 8), l.length = 8 ∧ v = .agg (vBs l).toArray := by
  simp only [Value.okWide, ht] at h
  obtain ⟨cs, rfl, hn, ts, hts, _, hall⟩ := h
  rw [hc] at hn
  rw [hct] at hts
  injection hts with hts
  subst hts
  have key : ∀ i, i < 8 → ∃ b : BitVec 8, cs[i]? = some (vB b) := fun i hi => by
    obtain ⟨u, hu, hok⟩ := hall i cs[i] (Array.getElem?_eq_getElem (by omega))
    rw [List.length_replicate, Nat.mod_eq_of_lt hi, List.getElem?_replicate, if_pos hi] at hu
    injection hu with hu
    subst hu
    rw [Array.getElem?_eq_getElem (by omega)]
    generalize cs[i]'(by omega) = x at hok
    simp only [Cell.okWide, he] at hok
    cases x <;> simp_all [Cell.ok]
    rename_i n _
    have h2 : 0 ≤ n ∧ n ≤ 255 := has_u8 n hok.2
    refine ⟨BitVec.ofInt 8 n, ?_⟩
    unfold vB U8; rw [BitVec.toNat_ofInt]; congr 1; omega
  obtain ⟨b0, h0⟩ := key 0 (by omega)
  obtain ⟨b1, h1⟩ := key 1 (by omega)
  obtain ⟨b2, h2⟩ := key 2 (by omega)
  obtain ⟨b3, h3⟩ := key 3 (by omega)
  obtain ⟨b4, h4⟩ := key 4 (by omega)
  obtain ⟨b5, h5⟩ := key 5 (by omega)
  obtain ⟨b6, h6⟩ := key 6 (by omega)
  obtain ⟨b7, h7⟩ := key 7 (by omega)
  refine ⟨[b0, b1, b2, b3, b4, b5, b6, b7], rfl, ?_⟩
  congr 1
  apply Array.ext_getElem?
  intro i
  match i with
  | 0 => exact h0
  | 1 => exact h1
  | 2 => exact h2
  | 3 => exact h3
  | 4 => exact h4
  | 5 => exact h5
  | 6 => exact h6
  | 7 => exact h7
  | i + 8 => rw [Array.getElem?_eq_none (by omega)]; rfl
set_option maxRecDepth 100000 in
set_option maxHeartbeats 1000000 in
theorem walk (a : Option Addr) (c : Nat) (l : List (BitVec 8)) (r : BitVec 64) (l8 : List (BitVec 8)) (w : World)
   (hs : Sl w a (vBs l)) (hn : l.length ≤ c) (hm : c ≤ 140737488351232) (hz : a = none → l.length = 0 ∧ c = 0) (h8 : l8.length = 8) :
    Calls Try.prog 6 #[.slice a l.length c, .int .u64 (U64 r), .agg (vBs l8).toArray] w fun e w' => e = .returned (.bool true) ∧ Below w.heap.size w w' := by
  have HA := Lib.hid hs
  have HZ := Lib.hid hz
  clear hs hz
  go_enter Try.func6, Try.ntmps6
  go_wp2_with fail
  refine (awake_any _).mono ?_
  rintro e w1 ⟨rfl, hb1⟩
  have HR := Lib.hid (show w1.heap[w.heap.size]? = some (.cells (vBs l8).toArray 37) from (hb1.block _ (by simp)).trans (heap_alloc_new _ _))
  have HB := Lib.hid (((Below.refl _ _).alloc (Nat.le_refl _) _).trans (hb1.mono (by simp)))
  clear hb1
  go_wp2_with fail
  refine (forge8 (U64 r) r rfl a l.length c l _ rfl (by unfold maxLen; omega) (HA.out.kept HB.out)).mono ?_
  rintro e w2 ⟨rfl, hb⟩
  have HR2 := Lib.hid ((hb.block _ (by have := (Array.getElem?_eq_some_iff.1 HR.out).1; exact this)).trans HR.out)
  have HB2 := Lib.hid (HB.out.trans (hb.mono HB.out.size))
  have hz2 := (Array.getElem?_eq_some_iff.1 HR2.out).1
  have hlF := Lib.hid (bytesN_length 8 (forgeX l r))
  have HF := Lib.hid (forge_sums l r)
  generalize bytesN 8 (forgeX l r) = F at hlF HF
  clear hb HB HR
  have hz8 := Lib.hid hlF.out
  have HS8 := Lib.hid (show (Try.prog.info? 37).map (·.size) = some (vBs F).toArray.size by rw [List.size_toArray, vBs_length, hlF.out]; kernel_rfl)
  have HS8' := Lib.hid (show zero8.size = (vBs F).toArray.size by show 8 = _; rw [List.size_toArray, vBs_length, hlF.out])
  obtain ⟨W3, hW3⟩ : ∃ W3, W3 = (w2.alloc (.cells #[.int .u8 0, .int .u8 0, .int .u8 0, .int .u8 0, .int .u8 0, .int .u8 0, .int .u8 0, .int .u8 0] 37)).setRow w2.heap.size (vBs F).toArray := ⟨_, rfl⟩
  have HW3 := Lib.hid hW3
  have hb3 : Below w.heap.size w W3 := by rw [hW3]; exact below_setRow (HB2.out.alloc HB2.out.size _) HB2.out.size _
  have hr3 : W3.heap[w.heap.size]? = some (.cells (vBs l8).toArray 37) := by
    rw [hW3, setRow_other _ _ _ _ (by omega), heap_alloc_old _ _ hz2]; exact HR2.out
  have hf3 : W3.heap[w2.heap.size]? = some (.cells (vBs F).toArray 37) := by rw [hW3]; exact setRow_heap _ _ _ _ _ _ (heap_alloc_new _ _)
  clear HB2 HR2 hW3
  have HB3 := Lib.hid hb3
  have HR3 := Lib.hid hr3
  have HF3 := Lib.hid hf3
  have hz3 := (Array.getElem?_eq_some_iff.1 hf3).1
  clear hb3 hr3 hf3
  go_wp2_with (first
   | (refine wpList_store_row rfl 37 _ _ rfl w2.heap.size (vBs F).toArray rfl rfl 37 zero8 (heap_alloc_new _ _) HS8.out HS8'.out (vBs_one _) ?_; rw [← HW3.out])
   | (at_builtin; refine wpList_append_sl rfl _ _ 29 rfl W3.heap.size 5 (.int .u8 0) 1 1 Try.underlying29 Try.info5 rfl (by decide) _ 0 [] rfl (World.ownsRow_nil _ _ _ _) a l.length c (vBs l) rfl HZ.out (by rw [vBs_length]; omega) (HA.out.kept HB3.out) (oneCell_vBs l) ?c1 ?c2 (Nat.le_refl _) ?c3))
  case c1 => unfold maxLen; omega
  case c2 => omega
  case c3 =>
  intro v4 W4 hown hgr
  have HB4 := Lib.hid (HB3.out.grown hgr HB3.out.size (fun k hk => by cases hk))
  have HR4 := Lib.hid ((hgr.block _ (by omega) (fun e => by cases e)).trans HR3.out)
  have HF4 := Lib.hid ((hgr.block _ hz3 (fun e => by cases e)).trans HF3.out)
  have HO := Lib.hid (show W4.ownsRow W3.heap.size 5 1 v4 l.length (vBs l) from hown)
  have hz4 := hgr.size
  clear hown hgr
  go_wp2_with (at_builtin; refine wpList_append_sl rfl _ _ 29 rfl W3.heap.size 5 (.int .u8 0) 1 1 Try.underlying29 Try.info5 rfl (by decide) _ l.length (vBs l) rfl HO.out (some ⟨w2.heap.size, 0, none⟩) 8 8 (vBs F) rfl (fun h => by cases h) (by rw [vBs_length, hlF.out]) (sl_row HF4.out) (oneCell_vBs F) ?c1 ?c2 hz4 ?c3)
  case c1 => unfold maxLen; omega
  case c2 => omega
  case c3 =>
  intro v5 W5 hown hgr
  rw [← vBs_append] at hown
  have hrow : ∀ k, v4.ownBlock = some k → W3.heap.size ≤ k := fun k hk => (HO.out.lt k hk).1
  have HB5 := Lib.hid (HB4.out.grown hgr HB4.out.size (fun k hk => Nat.le_trans HB3.out.size (hrow k hk)))
  have HR5 := Lib.hid ((hgr.block _ (Nat.lt_of_lt_of_le (by omega) hz4) (fun e => by have := hrow _ e.symm; omega)).trans HR4.out)
  have HF5 := Lib.hid ((hgr.block _ (Nat.lt_of_lt_of_le hz3 hz4) (fun e => by have := hrow _ e.symm; omega)).trans HF4.out)
  obtain ⟨ad, cap, rfl, hcap, hsl⟩ := owns_slice hown
  have HS := Lib.hid hsl
  clear hown hgr hrow HO HB4 HR4 HF4 hsl
  go_wp2_with fail
  refine (sum_at ad (l.length + 8) cap (l ++ F) _ (by rw [List.length_append, hlF.out]) (by unfold maxLen; omega) HS.out).mono ?_
  rintro e W6 ⟨rfl, hb⟩
  rw [HF.out]
  have hz5 := Nat.lt_of_lt_of_le hz3 hz4
  have HB6 := Lib.hid (HB5.out.trans (hb.mono HB5.out.size))
  have HR6 := Lib.hid ((hb.block _ (Array.getElem?_eq_some_iff.1 HR5.out).1).trans HR5.out)
  have HF6 := Lib.hid ((hb.block _ (Array.getElem?_eq_some_iff.1 HF5.out).1).trans HF5.out)
  clear hb HB5 HR5 HF5 HS
  have hz6 := (Array.getElem?_eq_some_iff.1 HF6.out).1
  have hz6' := (Array.getElem?_eq_some_iff.1 HR6.out).1
  have hrr : (U64 r != U64 r) = false := by simp
  go_wp2_with (at_builtin; refine wpList_append_sl rfl _ _ 29 rfl W6.heap.size 5 (.int .u8 0) 1 1 Try.underlying29 Try.info5 rfl (by decide) _ 0 [] rfl (World.ownsRow_nil _ _ _ _) a l.length c (vBs l) rfl HZ.out (by rw [vBs_length]; omega) (HA.out.kept HB6.out) (oneCell_vBs l) ?c1 ?c2 (Nat.le_refl _) ?c3)
  case c1 => unfold maxLen; omega
  case c2 => omega
  case c3 =>
  intro v7 W7 hown hgr
  have HB7 := Lib.hid (HB6.out.grown hgr HB6.out.size (fun k hk => by cases hk))
  have HR7 := Lib.hid ((hgr.block _ hz6' (fun e => by cases e)).trans HR6.out)
  have HF7 := Lib.hid ((hgr.block _ hz6 (fun e => by cases e)).trans HF6.out)
  have HO := Lib.hid (show W7.ownsRow W6.heap.size 5 1 v7 l.length (vBs l) from hown)
  have hz7 := hgr.size
  clear hown hgr hrr
  go_wp2_with (at_builtin; refine wpList_append_sl rfl _ _ 29 rfl W6.heap.size 5 (.int .u8 0) 1 1 Try.underlying29 Try.info5 rfl (by decide) _ l.length (vBs l) rfl HO.out (some ⟨w.heap.size, 0, none⟩) 8 8 (vBs l8) rfl (fun h => by cases h) (by rw [vBs_length, h8]) (sl_row HR7.out) (oneCell_vBs l8) ?c1 ?c2 hz7 ?c3)
  case c1 => unfold maxLen; omega
  case c2 => omega
  case c3 =>
  intro v8 W8 hown hgr
  rw [← vBs_append] at hown
  have hrow : ∀ k, v7.ownBlock = some k → W6.heap.size ≤ k := fun k hk => (HO.out.lt k hk).1
  have HB8 := Lib.hid (HB7.out.grown hgr HB7.out.size (fun k hk => Nat.le_trans HB6.out.size (hrow k hk)))
  have HR8 := Lib.hid ((hgr.block _ (Nat.lt_of_lt_of_le hz6' hz7) (fun e => by have := hrow _ e.symm; omega)).trans HR7.out)
  have HF8 := Lib.hid ((hgr.block _ (Nat.lt_of_lt_of_le hz6 hz7) (fun e => by have := hrow _ e.symm; omega)).trans HF7.out)
  obtain ⟨ad2, cap2, rfl, hcap2, hsl⟩ := owns_slice hown
  have HS := Lib.hid hsl
  clear hown hgr hrow HO HB7 HR7 HF7 hsl
  go_wp2_with fail
  refine (sum_at ad2 (l.length + 8) cap2 (l ++ l8) _ (by rw [List.length_append, h8]) (by unfold maxLen; omega) HS.out).mono ?_
  rintro e W9 ⟨rfl, hb⟩
  have HB9 := Lib.hid (HB8.out.trans (hb.mono HB8.out.size))
  have HR9 := Lib.hid ((hb.block _ (Array.getElem?_eq_some_iff.1 HR8.out).1).trans HR8.out)
  have HF9 := Lib.hid ((hb.block _ (Array.getElem?_eq_some_iff.1 HF8.out).1).trans HF8.out)
  clear hb HB8 HR8 HF8 HS
  obtain ⟨X, hX⟩ : ∃ X, X = updB 0#64 (l ++ l8) := ⟨_, rfl⟩
  rw [← hX]
  have HE1 := Lib.hid (show (U64 X == U64 r) = decide (F = l8) by
    rw [U64_beq, hX]
    by_cases e : F = l8
    · rw [← e, HF.out]; simp
    · simp only [e, decide_false, beq_eq_false_iff_ne, ne_eq]
      intro h; exact e (inj8 l F l8 hlF.out h8 (HF.out.trans h.symm)))
  have HE2 := Lib.hid (show bytesN 8 (forgeX l X) = l8 from inj8 l _ _ (bytesN_length _ _) h8 (by rw [forge_sums, hX]))
  have HC := Lib.hid (show ∀ W, Below w.heap.size w W → Calls Try.prog 21 #[.slice a l.length c, .int .u64 (U64 X)] W fun e w' => e = .returned (.agg (vBs l8).toArray) ∧ Below W.heap.size W w' from
    fun W hW => by have := forge8 (U64 X) X rfl a l.length c l W rfl (by unfold maxLen; omega) (HA.out.kept hW); rwa [HE2.out] at this)
  clear hX
  have hS8 := Lib.hid (show (Try.prog.info? 37).map (·.size) = some (vBs l8).toArray.size by rw [List.size_toArray, vBs_length, h8]; kernel_rfl)
  have hSF := Lib.hid (show (Try.prog.info? 37).map (·.size) = some (vBs F).toArray.size by rw [List.size_toArray, vBs_length, hlF.out]; kernel_rfl)
  have HEQ1 := Lib.hid (show ∀ W, (Op.equalIn 10000 37 (.agg (vBs F).toArray) (.agg (vBs l8).toArray)).run Try.prog W = .ok (decide (F = l8)) W from fun W => run_eq8 F l8 hlF.out h8 W)
  have HEQ2 := Lib.hid (show ∀ W, (Op.equalIn 10000 37 (.agg (vBs l8).toArray) (.agg (vBs l8).toArray)).run Try.prog W = .ok true W from fun W => by rw [run_eq8 l8 l8 h8 h8 W]; simp)
  go_wp2_with fail
  refine wp_region_inv 14 (fun W => Below w.heap.size w W ∧ W.heap[w.heap.size]? = some (.cells (vBs l8).toArray 37) ∧ W.heap[w2.heap.size]? = some (.cells (vBs F).toArray 37)) (by kernel_rfl) (by kernel_rfl)
    (fun _ => ⟨HB9.out.trans ⟨rfl, rfl, rfl, Nat.le_refl _, fun _ _ => rfl⟩, HR9.out, HF9.out⟩) ?_
  clear HB9 HR9 HF9
  simp only [List.take_succ_cons, List.take_zero]
  refine wpInv_cons (.int .u64 (U64 X)) rfl (fun _ hw => ⟨hw, rfl⟩) ?_
  simp only [Act.put, List.setIfInBounds_toArray, List.set_cons_zero, List.set_cons_succ]
  refine wpInv_cons (.int .u64 (U64 r)) rfl (fun _ hw => ⟨hw, rfl⟩) ?_
  simp only [Act.put, List.setIfInBounds_toArray, List.set_cons_zero, List.set_cons_succ]
  refine wpInv_cons (.bool (decide (F = l8))) rfl (fun Wx hw => ?_) ?_
  · go_simp
    exact ⟨hw, by rw [HE1.out]⟩
  simp only [Act.put, List.setIfInBounds_toArray, List.set_cons_zero, List.set_cons_succ]
  refine wpInv_cons (.agg (vBs F).toArray) rfl (fun Wx hw => inv_load_row 37 _ rfl _ rfl 37 _ _ _ hw.2.2 Try.underlying37 rfl hSF.out hw) ?_
  simp only [Act.put, List.setIfInBounds_toArray, List.set_cons_zero, List.set_cons_succ]
  refine wpInv_cons (.agg (vBs l8).toArray) rfl (fun Wx hw => inv_load_row 37 _ rfl _ rfl 37 _ _ _ hw.2.1 Try.underlying37 rfl hS8.out hw) ?_
  simp only [Act.put, List.setIfInBounds_toArray, List.set_cons_zero, List.set_cons_succ]
  refine wpInv_cons (.bool (decide (F = l8))) rfl (fun Wx hw => ?_) ?_
  · go_simp
    rw [HEQ1.out]
    exact ⟨hw, rfl⟩
  simp only [Act.put, List.setIfInBounds_toArray, List.set_cons_zero, List.set_cons_succ]
  refine wpInv_cons (.bool true) rfl (fun Wx hw => ?_) ?_
  · go_simp
    exact ⟨hw, by simp⟩
  simp only [Act.put, List.setIfInBounds_toArray, List.set_cons_zero, List.set_cons_succ]
  refine wpInv_cons (.bool true) rfl (fun _ hw => ⟨hw, rfl⟩) ?_
  simp only [Act.put, List.setIfInBounds_toArray, List.set_cons_zero, List.set_cons_succ]
  refine wpInv_cons (.slice a l.length c) rfl (fun _ hw => ⟨hw, rfl⟩) ?_
  simp only [Act.put, List.setIfInBounds_toArray, List.set_cons_zero, List.set_cons_succ]
  refine wpInv_cons (.int .u64 (U64 X)) rfl (fun _ hw => ⟨hw, rfl⟩) ?_
  simp only [Act.put, List.setIfInBounds_toArray, List.set_cons_zero, List.set_cons_succ]
  refine wpInv_cons (.agg (vBs l8).toArray) rfl (fun Wx hw => ?_) ?_
  · go_simp
    show Calls _ _ _ _ _
    refine (HC.out _ hw.1).mono ?_
    rintro e W' ⟨rfl, hb⟩
    exact ⟨rfl, hw.1.trans (hb.mono hw.1.size), (hb.block _ (Array.getElem?_eq_some_iff.1 hw.2.1).1).trans hw.2.1, (hb.block _ (Array.getElem?_eq_some_iff.1 hw.2.2).1).trans hw.2.2⟩
  simp only [Act.put, List.setIfInBounds_toArray, List.set_cons_zero, List.set_cons_succ]
  refine wpInv_cons (.agg (vBs l8).toArray) rfl (fun Wx hw => inv_load_row 37 _ rfl _ rfl 37 _ _ _ hw.2.1 Try.underlying37 rfl hS8.out hw) ?_
  simp only [Act.put, List.setIfInBounds_toArray, List.set_cons_zero, List.set_cons_succ]
  refine wpInv_cons (.bool true) rfl (fun Wx hw => ?_) ?_
  · go_simp
    rw [HEQ2.out]
    exact ⟨hw, rfl⟩
  simp only [Act.put, List.setIfInBounds_toArray, List.set_cons_zero, List.set_cons_succ]
  refine wpInv_cons (.bool true) rfl (fun _ hw => ⟨hw, rfl⟩) ?_
  simp only [Act.put, List.setIfInBounds_toArray, List.set_cons_zero, List.set_cons_succ]
  refine wpInv_nil fun W hW => ?_
  simp only [List.drop_succ_cons, List.drop_zero]
  have hB := hW.1
  clear hW
  go_wp2
  go_ret
  exact ⟨rfl, hB⟩
theorem own : ownKnob Try.prog.godebug = none := by kernel_rfl
theorem laidOut : laidOutB Try.prog = true := by kernel_rfl
set_option maxRecDepth 100000 in
theorem lifted (os : Os) (started : os.Started) (H : Type) (enc : TypeId × Value → H) :
    ReturnsInHanded {} Try.checked os 6 .any (Rows.sumForgedSpec.pre6 enc Try.prog Try.f6 Rows.sumForgedRow.domain false) (Rows.sumForgedSpec.post enc Try.prog Try.f6 false true false false) := by
  refine returnsInHanded_of_change_sized (C := Try.checked) own started (by kernel_rfl) Try.func6
    (ChangeSpec.witness6 (enc := enc) (C := Try.checked) false ⟨#[], #[.slice none 0 0, .int .u64 0, .agg #[.int .u8 0, .int .u8 0, .int .u8 0, .int .u8 0, .int .u8 0, .int .u8 0, .int .u8 0, .int .u8 0]], []⟩ 8 (by kernel_rfl) (by kernel_rfl) (by kernel_rfl) (by kernel_rfl)) ?_
  intro W base args ds gs before hval0 hW hcnd hsz0 _
  have hsz : (DataW.weightsEach Try.prog (Try.f6.params.toList ++ Rows.sumForgedSpec.plain.varTypes Try.prog) (ds ++ gs)).all (· ≤ reachBytes) = true := hsz0
  clear hsz0
  have hval : ∀ (j : Nat) t v, Try.f6.params[j]? = some t → args[j]? = some v → Value.okWide Try.prog W .any base t v := hval0
  have hW' := hW
  obtain ⟨p, q, hA0, hV, rfl, hfz, hnd⟩ := hW
  have hA : DataW.TrodAll enc Try.prog W 0 (fun _ => true) true Try.f6.params.toList args.toList ds p := hA0
  rw [Try.params6] at hA hval hsz
  obtain ⟨v0, vs0, d0, ds0, p0, q0, hargs, rfl, rfl, h0, r0⟩ := trodAll_cons hA
  obtain ⟨v1, vs1, d1, ds1, p1, q1, rfl, rfl, rfl, h1, r1⟩ := trodAll_cons r0
  obtain ⟨v2, vs2, d2, ds2, p2, q2, rfl, rfl, rfl, h2, r2⟩ := trodAll_cons r1
  obtain ⟨rfl, rfl, rfl⟩ := trodAll_nil r2
  obtain rfl : args = #[v0, v1, v2] := by cases args; simp_all
  obtain ⟨rfl, rfl⟩ := trodVars_none hV
  obtain ⟨a0, len0, cap0, rfl⟩ := okWide_slice Try.underlying29 (hval 0 29 v0 rfl rfl)
  have k0 := h0
  have lt0 : ∀ x ∈ p0, x.block < W.heap.size := by obtain ⟨m, hm⟩ := k0; exact DataW.trod_lt m _ _ _ hm
  obtain ⟨l0, rfl, s0, n0, m0, z0⟩ := open_bytes Try.underlying29 Try.underlying5 (by kernel_rfl) (by kernel_rfl) h0 hsz (j := 0) rfl rfl
  obtain ⟨a1, rfl, rfl, rfl, w1⟩ := open_int Try.underlying22 (hval 1 22 v1 rfl rfl) h1
  obtain ⟨x1, rfl⟩ := u64_of_wf w1
  obtain ⟨l2, n2, rfl⟩ := open_row8 Try.underlying37 Try.underlying5 (by kernel_rfl) (by kernel_rfl) (hval 2 37 v2 rfl rfl)
  have k2 := h2
  have lt2 : ∀ x ∈ p2, x.block < W.heap.size := by obtain ⟨m, hm⟩ := k2; exact DataW.trod_lt m _ _ _ hm
  clear hA0 hval0
  refine (walk a0 cap0 l0 x1 l2 W s0 n0 m0 z0 n2).mono fun e W' ⟨he, bel⟩ => ?_
  subst he
  exact ⟨_, rfl, _, _, _, [], _, [], hW', trodAll_mk1 (shut_bool Try.underlying4 _), (trodAll_cons_mk (Below.trod laidOut (by kernel_rfl) (of_decide_eq_true (by kernel_rfl)) k0 bel lt0) (trodAll_cons_mk (shut_int Try.underlying22 w1) (trodAll_cons_mk (Below.trod laidOut (by kernel_rfl) (of_decide_eq_true (by kernel_rfl)) k2 bel lt2) trodAll_mk0))), rfl, bel.frame _, fun h => by cases h⟩
theorem over : Rows.sumForgedRow.holds Try.pinned (OpenSpec.ofChange Rows.sumForgedSpec) :=
  OpenClaim.holds_of_wide 6 Try.f6 rfl rfl rfl rfl rfl rfl rfl ⟨rfl, rfl, rfl, rfl, rfl⟩ rfl rfl rfl rfl rfl (by kernel_rfl) Try.func6 (by kernel_rfl)
    (of_decide_eq_true (by kernel_rfl)) (by unfold Func.isWrapper; first | (rw [if_pos (by decide +kernel)]; kernel_rfl) | (rw [if_neg (by decide +kernel)]; exact ⟨rfl, rfl⟩))
    (fun os started H enc _ => lifted os started H enc)
theorem proved : Rows.SumForgedSaid := over
#print axioms proved
end Go.Proofs.Ytdphcmmpkacmfaa.lawSumForged
