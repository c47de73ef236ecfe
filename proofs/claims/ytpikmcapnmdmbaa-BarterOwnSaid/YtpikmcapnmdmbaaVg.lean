/-
  Layer 22: the document's end of a contract.
-/
import Derived.Test.YtpikmcapnmdmbaaVd
namespace Go.Proofs.Ytpikmcapnmdmbaa
open Go.RowKit Go.K Go.Maps
set_option linter.unusedVariables false
set_option linter.unusedSimpArgs false
theorem ownV_no {is : List Int} {x : Int} (h : x ∉ is) : ownV is x = -1 := by
  unfold ownV
  have : is.findIdx? (· == x) = none := by
    rw [List.findIdx?_eq_none_iff]
    intro y hy
    simp only [beq_eq_false_iff_ne]
    intro e; exact h (e ▸ hy)
  rw [this]
theorem ownV_yes {is : List Int} {x : Int} (h : x ∈ is) : 0 ≤ ownV is x := by
  unfold ownV
  cases he : is.findIdx? (· == x) with
  | none =>
    rw [List.findIdx?_eq_none_iff] at he
    have := he x h
    simp at this
  | some k => exact Int.natCast_nonneg _
def whoI (L : List Int) (k : Nat) : List Int := (mIx L k).map fun (i : Nat) => (i : Int)
theorem whoI_length (L : List Int) (k : Nat) : (whoI L k).length = (mIx L k).length := by simp [whoI]
theorem mIx_lt' {L : List Int} {k i : Nat} (h : i ∈ mIx L k) : i < k ∧ isM L i = true := by
  unfold mIx at h
  rw [List.mem_filter] at h
  exact ⟨List.mem_range.1 h.1, h.2⟩
theorem who_no {L : List Int} {k n : Nat} (h : isM L k = false) : ownV (whoI L n) k = -1 := ownV_no (fun hm => by
  obtain ⟨i, hi, e⟩ := List.mem_map.1 hm
  have e2 : i = k := by omega
  subst e2
  rw [(mIx_lt' hi).2] at h
  cases h)
theorem who_yes {L : List Int} {k : Nat} (h : isM L k = true) : ∀ n, k < n → ownV (whoI L n) k = ((mIx L k).length : Int)
  | 0, hn => by omega
  | n + 1, hn => by
    have key : (whoI L (n + 1)).findIdx? (· == (k : Int)) = some (mIx L k).length := by
      unfold whoI
      rw [mIx_succ, List.map_append, List.findIdx?_append]
      by_cases e : n = k
      · subst e
        have h1 : ((mIx L n).map fun (i : Nat) => (i : Int)).findIdx? (· == (n : Int)) = none := by
          rw [List.findIdx?_eq_none_iff]
          intro y hy
          obtain ⟨i, hi, rfl⟩ := List.mem_map.1 hy
          have := (mIx_lt' hi).1
          simp only [beq_eq_false_iff_ne]
          omega
        rw [h1, if_pos h]
        simp
      · have h2 := who_yes h n (by omega)
        unfold ownV whoI at h2
        cases hf : ((mIx L n).map fun (i : Nat) => (i : Int)).findIdx? (· == (k : Int)) with
        | none => rw [hf] at h2; simp only at h2; omega
        | some q =>
          rw [hf] at h2
          simp only at h2
          have : q = (mIx L k).length := by omega
          rw [this]; rfl
    unfold ownV
    rw [key]
theorem owns_apt {W W' : World} {B : Nat} {e : TypeId} {s n : Nat} {v v' : Value} {xs : List Value} (h : W.ownsRow B e s v n xs) (hg : W.grownBy W' v'.ownBlock) (hne : ∀ b, v.ownBlock = some b → v'.ownBlock ≠ some b) : W'.ownsRow B e s v n xs :=
  h.kept hg (by
    cases hv : v.ownBlock with
    | none => exact .inl rfl
    | some b => exact .inr (fun e => hne b hv e.symm))
structure RI (w : World) (c : Con) (k : Nat) (v3 v4 v5 : Value) (W : World) : Prop where
  bel : Below w.heap.size w W
  box : Box W w.heap.size c
  r3 : W.ownsRow (w.heap.size + 1) 3 1 v3 (mIx (c.es.map Ent.item) k).length (vI (mIs (c.es.map Ent.item) k))
  r4 : W.ownsRow (w.heap.size + 1) 22 1 v4 (mIx (c.es.map Ent.item) k).length (wV (mWs c.es (c.es.map Ent.item) k))
  r5 : W.ownsRow (w.heap.size + 1) 3 1 v5 (mIx (c.es.map Ent.item) k).length (vI (whoI (c.es.map Ent.item) k))
  ap : ∀ b, v3.ownBlock = some b → v5.ownBlock ≠ some b
theorem RI.no {w : World} {c : Con} {k : Nat} {v3 v4 v5 : Value} {W : World} (h : RI w c k v3 v4 v5 W) (hm : isM (c.es.map Ent.item) k = false) : RI w c (k + 1) v3 v4 v5 W := by
  have e1 : mIx (c.es.map Ent.item) (k + 1) = mIx (c.es.map Ent.item) k := by rw [mIx_succ, if_neg (by rw [hm]; decide), List.append_nil]
  have e2 : mIs (c.es.map Ent.item) (k + 1) = mIs (c.es.map Ent.item) k := by rw [mIs, e1]; rfl
  have e3 : mWs c.es (c.es.map Ent.item) (k + 1) = mWs c.es (c.es.map Ent.item) k := by rw [mWs, e1]; rfl
  have e4 : whoI (c.es.map Ent.item) (k + 1) = whoI (c.es.map Ent.item) k := by rw [whoI, e1]; rfl
  exact ⟨h.bel, h.box, by rw [e1, e2]; exact h.r3, by rw [e1, e3]; exact h.r4, by rw [e1, e4]; exact h.r5, h.ap⟩
theorem RI.yes {w : World} {c : Con} {k : Nat} {v3 v4 v5 : Value} {W : World} (hk : k < c.es.length) (hm : isM (c.es.map Ent.item) k = true) (hb : Below w.heap.size w W) (hbox : Box W w.heap.size c)
    (h3 : W.ownsRow (w.heap.size + 1) 3 1 v3 ((mIx (c.es.map Ent.item) k).length + 1) (vI (mIs (c.es.map Ent.item) k) ++ [.int .i64 (c.es[k]).item]))
    (h4 : W.ownsRow (w.heap.size + 1) 22 1 v4 ((mIx (c.es.map Ent.item) k).length + 1) (wV (mWs c.es (c.es.map Ent.item) k) ++ [(wE c.es[k]).v]))
    (h5 : W.ownsRow (w.heap.size + 1) 3 1 v5 ((mIx (c.es.map Ent.item) k).length + 1) (vI (whoI (c.es.map Ent.item) k) ++ [.int .i64 (k : Int)])) (ha : ∀ b, v3.ownBlock = some b → v5.ownBlock ≠ some b) : RI w c (k + 1) v3 v4 v5 W := by
  have hg : (c.es.map Ent.item).getD k 0 = c.es[k].item := by simp [List.getD_eq_getElem?_getD, List.getElem?_eq_getElem hk]
  have e1 : mIx (c.es.map Ent.item) (k + 1) = mIx (c.es.map Ent.item) k ++ [k] := by rw [mIx_succ, if_pos hm]
  have e2 : mIs (c.es.map Ent.item) (k + 1) = mIs (c.es.map Ent.item) k ++ [c.es[k].item] := by rw [mIs_succ, if_pos hm, hg]
  have e3 : mWs c.es (c.es.map Ent.item) (k + 1) = mWs c.es (c.es.map Ent.item) k ++ [wE c.es[k]] := by rw [mWs_succ _ _ _ hk, if_pos hm]
  have e4 : whoI (c.es.map Ent.item) (k + 1) = whoI (c.es.map Ent.item) k ++ [(k : Int)] := by rw [whoI, e1, List.map_append]; rfl
  exact ⟨hb, hbox, by rw [e1, e2, List.length_append, vI_append]; exact h3, by rw [e1, e3, List.length_append, wV_append]; exact h4, by rw [e1, e4, List.length_append, vI_append]; exact h5, ha⟩
theorem RI.size {w : World} {c : Con} {k : Nat} {v3 v4 v5 : Value} {W : World} (h : RI w c k v3 v4 v5 W) : w.heap.size + 1 ≤ W.heap.size := lt_row h.box
set_option maxRecDepth 100000 in
set_option maxHeartbeats 4000000 in
theorem rend_any (c : Con) (w : World) (hc : ConOk w c) (hn : c.es.length ≤ 3000) : Calls Try.prog 40 #[c.agg] w (EndAns w c) := by
  have HC := Lib.hid hc
  have HN := Lib.hid hn
  clear hc
  unfold EndAns
  have HBX := Lib.hid (show Box (w.alloc (.cells #[.int .i64 c.num, .int .i64 c.kind, .int .i64 c.by', .int .i64 c.dl, .int .i64 c.to', .int .i64 c.want, .int .u64 c.price, .int .u64 c.reserve, .int .u64 c.step, .int .i64 c.of', .slice c.ea c.es.length c.ec] 45)) w.heap.size c from alloc_at rfl)
  unfold Con.agg
  go_enter Try.func40, Try.ntmps40
  go_wp2
  go_loopw [3, 4, 5, 6, 7] (fun v3' v4' v5' i s7 wr => ∃ (k : Nat) (v3 v4 v5 : Value), v3 = v3' ∧ v4 = v4' ∧ v5 = v5' ∧ k ≤ c.es.length ∧ i = .int .i64 k ∧ RI w c k v3 v4 v5 wr) (fun _ _ _ i _ _ => c.es.length - (intOf i).toNat)
  case atStart => exact ⟨0, _, _, _, rfl, rfl, rfl, by omega, rfl, (Below.refl _ _).alloc (Nat.le_refl _) _, HBX.out, World.ownsRow_nil _ _ _ _, World.ownsRow_nil _ _ _ _, World.ownsRow_nil _ _ _ _, fun b h => by cases h⟩
  case round =>
    clear HBX
    obtain ⟨k, v3, v4, v5, e3, e4, e5, hk, rfl, hi⟩ := hrel
    subst e3 e4 e5
    have HI := Lib.hid hi
    have z10 := hi.box.cells.2.2.2.2.2.2.2.2.2.2
    clear hi
    by_cases hlt : k < c.es.length
    · have t0 : decide ((k : Int) < (c.es.length : Int)) = true := by simp; omega
      have i1 : (k : Int) < (c.es.length : Int) := by omega
      obtain ⟨ob, oo, hea, f0, f1, f2, f3, f4⟩ := ent_at HC.out.sl k hlt
      have HEA := Lib.hid hea
      clear hea
      rw [HEA.out] at z10
      have HF1 := Lib.hid f1
      have HF4 := Lib.hid f4
      have f1' := below_cell HI.out.bel f1
      have HNO := Lib.hid (fun h => HI.out.no (isM_no (by simpa using hlt) h))
      have HYE := Lib.hid (fun h1 h2 => isM_yes (L := c.es.map Ent.item) (k := k) (by simpa using hlt) h1 h2)
      have hgd : (c.es.map Ent.item).getD k 0 = c.es[k].item := by simp [List.getD_eq_getElem?_getD, List.getElem?_eq_getElem hlt]
      rw [hgd] at HNO HYE
      have HML := Lib.hid (mIx_le (c.es.map Ent.item) k)
      have HWV := Lib.hid (fun (u3 u4 u5 : Value) (W : World) => RI.yes (w := w) (c := c) (v3 := u3) (v4 := u4) (v5 := u5) (W := W) hlt)
      obtain ⟨a3, k3, hv3, _, hs3, _⟩ := owns_slice HI.out.r3
      have K50 := Lib.hid (show ∀ y : Int, Calls Try.prog 50 #[v3, .int .i64 y] wr fun r w' => r = .returned (.int .i64 (ownV (mIs (c.es.map Ent.item) k) y)) ∧ wr = w' from fun y => by
        have h := owner_any a3 k3 (mIs (c.es.map Ent.item) k) y wr (by rw [mIs_length]; have := HML.out; omega) hs3
        rw [mIs_length, ← hv3] at h
        exact h)
      clear hgd f0 f1 f2 f3 f4 hv3 hs3
      obtain ⟨x, hx⟩ : ∃ x : Ent, x = c.es[k] := ⟨_, rfl⟩
      rw [← hx] at f1' HNO HYE HWV HF1 HF4
      clear hx
      by_cases hx1 : x.item > 0
      · have u1 : decide (x.item > 0) = true := by simpa using hx1
        by_cases hin : x.item ∈ mIs (c.es.map Ent.item) k
        · have HOV := Lib.hid (ownV_yes hin)
          have HNX := Lib.hid (HNO.out (.inr hin))
          have K50' := Lib.hid (K50.out x.item)
          generalize ownV (mIs (c.es.map Ent.item) k) x.item = ov at K50' HOV
          have u2 : decide (ov < 0) = false := decide_eq_false (by have := HOV.out; omega)
          clear hin hx1
          go_wp2_with fail
          refine K50'.out.mono ?_
          rintro r0 w1 ⟨rfl, rfl⟩
          go_wp2
          go_roundw
          case rel => exact ⟨k + 1, _, _, _, rfl, rfl, rfl, by omega, by go_num, HNX.out⟩
          case measure => simp [intOf]; omega
        · have HOV := Lib.hid (ownV_no hin)
          have HYX := Lib.hid (HYE.out (by omega) hin)
          have K50' := Lib.hid (K50.out x.item)
          rw [HOV.out] at K50'
          have u2 : decide ((-1 : Int) < 0) = true := by decide
          have hml := HML.out
          have hcn := HN.out
          clear hin hx1
          go_wp2_with fail
          refine K50'.out.mono ?_
          rintro r0 w1 ⟨rfl, rfl⟩
          clear K50 K50'
          have HR3 := Lib.hid HI.out.r3
          have HR4 := Lib.hid HI.out.r4
          have HR5 := Lib.hid HI.out.r5
          have HAP := Lib.hid HI.out.ap
          have HSZ := Lib.hid HI.out.size
          have HB := Lib.hid HI.out.bel
          have HBO := Lib.hid HI.out.box
          generalize (mIx (c.es.map Ent.item) k).length = m at *
          clear f1' z10
          go_wp2_with (at_builtin; refine wpList_append_sl_at rfl _ _ 22 rfl (w.heap.size + 1) 3 (.int .i64 0) 1 8 Try.underlying22 infoI rfl (by decide) v3 m (vI (mIs (c.es.map Ent.item) k)) rfl (HR3.out.alloc _) (some ⟨wr.heap.size, 0, none⟩) 1 1 [.int .i64 x.item] rfl (fun h => by cases h) rfl (sl_new _ _ _ _) (one_int _ _) ?a2 ?a3 ?a4 ?a5)
          case a2 => unfold maxLen; omega
          case a3 => omega
          case a4 => have := HSZ.out; simp only [World.size_alloc]; omega
          intro u3 w2 ho3 hg3 hl3
          have hba : Below wr.heap.size wr (wr.alloc (.cells #[.int .i64 x.item] 3)) := (Below.refl _ _).alloc (Nat.le_refl _) _
          have hbb := HB.out.trans (hba.mono HB.out.size)
          have HB2 := Lib.hid (show Below w.heap.size w w2 from hbb.grown hg3 hbb.size (fun j hj => by have := (HR3.out.lt j hj).1; omega))
          have HBO2 := Lib.hid (show Box w2 w.heap.size c from row_past (HBO.out.alloc _) hg3 (fun e => by have := (HR3.out.lt _ e.symm).1; omega))
          have HO3 := Lib.hid ho3
          have HO4 := Lib.hid ((HR4.out.alloc (.cells #[.int .i64 x.item] 3)).kept hg3 (owns_apart' HR4.out HR3.out (by decide)))
          have HO5 := Lib.hid (owns_apt (HR5.out.alloc (.cells #[.int .i64 x.item] 3)) hg3 (fun b hb e => HAP.out b e hb))
          have HAP2 := Lib.hid (show ∀ b, u3.ownBlock = some b → v5.ownBlock ≠ some b from fun b hb e => by
            rcases hl3 with h | h
            · exact HAP.out b (h.symm.trans hb) e
            · have h2 := Option.some.inj (h.symm.trans hb)
              have := (HR5.out.lt b e).2
              omega)
          have HSZ2 := Lib.hid (show w.heap.size + 1 ≤ w2.heap.size from lt_row HBO2.out)
          have z10 := HBO2.out.cells.2.2.2.2.2.2.2.2.2.2
          rw [HEA.out] at z10
          have q4 := below_cell HB2.out HF4.out
          clear ho3 hg3 hl3 hba hbb HR3 HR4 HR5 HAP
          go_wp2_with (at_builtin; refine wpList_append_sl rfl _ _ 23 rfl (w.heap.size + 1) 22 (.slice none 0 0) 1 24 Try.underlying23 infoS rfl (by decide) v4 m (wV (mWs c.es (c.es.map Ent.item) k)) rfl (HO4.out.alloc _) (some ⟨w2.heap.size, 0, none⟩) 1 1 [.slice x.wa x.ws.length x.wc] rfl (fun h => by cases h) rfl (sl_new _ _ _ _) (oneCell_sl _ _ _) ?b2 ?b3 ?b4 ?b5)
          case b2 => unfold maxLen; omega
          case b3 => omega
          case b4 => have := HSZ2.out; simp only [World.size_alloc]; omega
          intro u4 w3 ho4 hg4
          have hba : Below w2.heap.size w2 (w2.alloc (.cells #[.slice x.wa x.ws.length x.wc] 22)) := (Below.refl _ _).alloc (Nat.le_refl _) _
          have hbb := HB2.out.trans (hba.mono HB2.out.size)
          have HB3 := Lib.hid (show Below w.heap.size w w3 from hbb.grown hg4 hbb.size (fun j hj => by have := (HO4.out.lt j hj).1; omega))
          have HBO3 := Lib.hid (show Box w3 w.heap.size c from row_past (HBO2.out.alloc _) hg4 (fun e => by have := (HO4.out.lt _ e.symm).1; omega))
          have HP3 := Lib.hid ((HO3.out.alloc (.cells #[.slice x.wa x.ws.length x.wc] 22)).kept hg4 (owns_apart' HO3.out HO4.out (by decide)))
          have HP4 := Lib.hid ho4
          have HP5 := Lib.hid ((HO5.out.alloc (.cells #[.slice x.wa x.ws.length x.wc] 22)).kept hg4 (owns_apart' HO5.out HO4.out (by decide)))
          have HSZ3 := Lib.hid (show w.heap.size + 1 ≤ w3.heap.size from lt_row HBO3.out)
          clear ho4 hg4 hba hbb HO3 HO4 HO5 z10 q4
          go_wp2_with (at_builtin; refine wpList_append_sl_at rfl _ _ 22 rfl (w.heap.size + 1) 3 (.int .i64 0) 1 8 Try.underlying22 infoI rfl (by decide) v5 m (vI (whoI (c.es.map Ent.item) k)) rfl (HP5.out.alloc _) (some ⟨w3.heap.size, 0, none⟩) 1 1 [.int .i64 (k : Int)] rfl (fun h => by cases h) rfl (sl_new _ _ _ _) (one_int _ _) ?d2 ?d3 ?d4 ?d5)
          case d2 => unfold maxLen; omega
          case d3 => omega
          case d4 => have := HSZ3.out; simp only [World.size_alloc]; omega
          intro u5 w4 ho5 hg5 hl5
          have hba : Below w3.heap.size w3 (w3.alloc (.cells #[.int .i64 (k : Int)] 3)) := (Below.refl _ _).alloc (Nat.le_refl _) _
          have hbb := HB3.out.trans (hba.mono HB3.out.size)
          have HFI := Lib.hid (show RI w c (k + 1) u3 u4 u5 w4 from by
            refine HWV.out u3 u4 u5 w4 HYX.out (hbb.grown hg5 hbb.size (fun j hj => by have := (HP5.out.lt j hj).1; omega)) (row_past (HBO3.out.alloc _) hg5 (fun e => by have := (HP5.out.lt _ e.symm).1; omega)) ?_ ?_ ho5 ?_
            · exact owns_apt (HP3.out.alloc (.cells #[.int .i64 (k : Int)] 3)) hg5 (fun b hb e => HAP2.out b hb e)
            · exact (HP4.out.alloc (.cells #[.int .i64 (k : Int)] 3)).kept hg5 (owns_apart' HP4.out HP5.out (by decide))
            · intro b hb e
              rcases hl5 with h | h
              · exact HAP2.out b hb (h.symm.trans e)
              · have h2 := Option.some.inj (h.symm.trans e)
                have := (HP3.out.lt b hb).2
                omega)
          clear ho5 hg5 hl5 hba hbb
          go_wp2
          go_roundw
          case rel => exact ⟨k + 1, _, _, _, rfl, rfl, rfl, by omega, by go_num, HFI.out⟩
          case measure => simp [intOf]; omega
      · have u1 : decide (x.item > 0) = false := by simpa using hx1
        have HNX := Lib.hid (HNO.out (.inl (by omega)))
        clear hx1
        go_wp2
        go_roundw
        case rel => exact ⟨k + 1, _, _, _, rfl, rfl, rfl, by omega, by go_num, HNX.out⟩
        case measure => simp [intOf]; omega
    · have t0 : decide ((k : Int) < (c.es.length : Int)) = false := by simp; omega
      have hke : k = c.es.length := by omega
      subst hke
      obtain ⟨a3, k3, rfl, hn3, hs3, hle3⟩ := owns_slice HI.out.r3
      obtain ⟨a4, k4, rfl, hn4, hs4, hle4⟩ := owns_slice HI.out.r4
      obtain ⟨a5, k5, rfl, hn5, hs5, hle5⟩ := owns_slice HI.out.r5
      have HMP := Lib.hid (mIs_meet (c.es.map Ent.item) c.es.length (by simp))
      have HIL := Lib.hid (mIs_length (c.es.map Ent.item) c.es.length)
      have HWL := Lib.hid (mWs_length c.es (c.es.map Ent.item) c.es.length (Nat.le_refl _))
      have HML := Lib.hid (mIx_le (c.es.map Ent.item) c.es.length)
      have HWS := Lib.hid (show WsOk wr a4 (mWs c.es (c.es.map Ent.item) c.es.length) from ⟨hs4, fun y hy => by
        obtain ⟨e, he, rfl⟩ := mWs_mem hy
        exact ((HC.out.ents e he).kept HI.out.bel).wl⟩)
      have HWF := Lib.hid (show Wf (mIs (c.es.map Ent.item) c.es.length) from fun y hy => by
        have := ((mIs_mem _ y c.es.length (by simp)).1 hy).1
        rw [List.take_of_length_le (by simp)] at this
        obtain ⟨e, he, rfl⟩ := List.mem_map.1 this
        exact (HC.out.ents e he).iw)
      have HMK := Lib.hid (fun q (hq : q < c.es.length) (hm : isM (c.es.map Ent.item) q = true) => mIx_lt (c.es.map Ent.item) hq hm)
      generalize hL : c.es.map Ent.item = L at *
      have HL := Lib.hid hL
      have HWH := Lib.hid (whoI_length L c.es.length)
      generalize hIS : mIs L c.es.length = IS at *
      generalize hWS : mWs c.es L c.es.length = WS at *
      generalize hm0 : (mIx L c.es.length).length = m at *
      have HIS := Lib.hid hIS
      have HWSE := Lib.hid hWS
      clear hL hIS hWS hm0
      have HS5 := Lib.hid hs5
      have K19 := Lib.hid (show Calls Try.prog 19 #[.slice a3 m k3, .slice a4 m k4] wr fun r w' => ∃ s3 s4 s5, r = .returned (.tuple #[s3, s4, s5]) ∧ ClearAns IS WS wr (.returned (.tuple #[s3, s4, s5])) w' by
        have := rclear_ans (wc := k4) (ic := k3) (by have := HML.out; have := HIL.out; omega) hs3 HWF.out HWS.out HWL.out
        rw [HIL.out] at this
        exact this)
      clear hn3 hs3 hle3 hn4 hs4 hle4 hn5 hs5 hle5
      go_wp2_with fail
      refine K19.out.mono ?_
      rintro r0 w1 ⟨s3, s4, s5, rfl, hans⟩
      rcases hans with ⟨⟨hr2, hno⟩ | ⟨hm, cs, gs, D, g, G, vc, B, hr2, hrun, hall, hgot, hgr, hg, hgB, hcy, hcr⟩, hb⟩
      · rw [HWL.out] at hno
        exact absurd HMP.out hno
      simp only [Ending.returned.injEq, Value.tuple.injEq, Array.mk.injEq, List.cons.injEq] at hr2
      obtain ⟨rfl, rfl, rfl, _⟩ := hr2
      rw [HIL.out] at hgr ⊢
      have HGOT := Lib.hid (show Got IS (WS.map Wl.l) G from ⟨cs, D, hrun, hall, hgot⟩)
      have HB1 := Lib.hid (HI.out.bel.trans (hb.mono HI.out.bel.size))
      have HBX := Lib.hid (show Box w1 w.heap.size c from HI.out.box.kept hb)
      have HGR := Lib.hid hgr
      have HSW := Lib.hid (HS5.out.kept hb)
      have z10 := HBX.out.cells.2.2.2.2.2.2.2.2.2.2
      clear hm hrun hall hgot hgr hg hgB hcy hcr hb K19 HWS HWF HMP HI
      go_wp2
      clear z10
      go_loopw [11, 12, 13, 14, 15] (fun v' i s13 s14 s15 wr => ∃ (k : Nat) (v : Value), v = v' ∧ k ≤ c.es.length ∧ i = .int .i64 k ∧ Below w1.heap.size w1 wr ∧ wr.ownsRow w1.heap.size 86 3 v (endG c.es L G k).length (gFlat (endG c.es L G k))) (fun _ i _ _ _ _ => c.es.length - (intOf i).toNat)
      case atStart => exact ⟨0, _, rfl, by omega, rfl, Below.refl _ _, World.ownsRow_nil _ _ _ _⟩
      case round =>
        obtain ⟨wa, hwa⟩ : ∃ W, W = wr := ⟨_, rfl⟩
        subst hwa
        obtain ⟨k, v, hv, hk, rfl, hbw, hoo⟩ := hrel
        subst hv
        have HBW := Lib.hid hbw
        have HOO := Lib.hid hoo
        have z10 := (HBX.out.kept hbw).cells.2.2.2.2.2.2.2.2.2.2
        clear hbw hoo
        by_cases hlt : k < c.es.length
        case neg =>
          have t0 : decide ((k : Int) < (c.es.length : Int)) = false := by simp; omega
          have hke : k = c.es.length := by omega
          subst hke
          go_wp2
          go_ret
          exact ⟨_, G, rfl, by rw [HL.out, HIS.out, HWSE.out]; exact HGOT.out, by rw [HL.out]; exact owns_base HOO.out HB1.out.size, HB1.out.trans (HBW.out.mono HB1.out.size)⟩
        case pos =>
        have t0 : decide ((k : Int) < (c.es.length : Int)) = true := by simp; omega
        have i1 : (k : Int) < (c.es.length : Int) := by omega
        obtain ⟨ob, oo, hea, f0, f1, f2, f3, f4⟩ := ent_at ((HC.out.kept (HB1.out.trans (HBW.out.mono HB1.out.size))).sl) k hlt
        rw [hea] at z10
        have HES := Lib.hid (endG_succ c.es L G k hlt)
        have HLN := Lib.hid (endG_len c.es L G k)
        have hgd : L.getD k 0 = c.es[k].item := by rw [← HL.out]; simp [List.getD_eq_getElem?_getD, List.getElem?_eq_getElem hlt]
        have HGD := Lib.hid hgd
        clear hgd hea
        generalize c.es[k] = x at *
        have HG1 := Lib.hid (row_kept HGR.out HBW.out)
        have hkn := HN.out
        have hnn : k ≤ 3000 := by omega
        have K50 := Lib.hid (fun (W : World) (hW : Below wa.heap.size wa W) => show Calls Try.prog 50 #[.slice a5 m k5, .int .i64 (k : Int)] W fun r w' => r = .returned (.int .i64 (ownV (whoI L c.es.length) k)) ∧ W = w' from by
            have h := owner_any a5 k5 (whoI L c.es.length) k W (by rw [HWH.out]; have := HML.out; omega) ((HSW.out.kept HBW.out).kept hW)
            rw [HWH.out] at h
            exact h)
        go_wp2_with fail
        refine (K50.out _ ?_).mono ?_
        · exact (Below.refl _ _).alloc (Nat.le_refl _) _
        rintro r0 w2 ⟨rfl, rfl⟩
        obtain ⟨ov, hov⟩ : ∃ y, y = ownV (whoI L c.es.length) k := ⟨_, rfl⟩
        rw [← hov]
        have HOV := Lib.hid hov
        clear hov K50
        go_upto_if 79 with fail
        go_cut [14] (fun s wc => s = .int .i64 (itemAt L G k) ∧ wa.alloc (.cells #[.int .i64 x.acc, .int .i64 x.item, .int .u64 x.coins, .int .u64 x.price, .slice x.wa x.ws.length x.wc] 48) = wc)
        case first =>
          by_cases hm : isM L k = true
          · have HMM := Lib.hid (HMK.out k hlt hm)
            have HPE := Lib.hid (HOV.out.trans (who_yes hm c.es.length hlt))
            have HIT := Lib.hid (show itemAt L G k = G (mIx L k).length by unfold itemAt; rw [if_pos hm])
            have hpe := HPE.out
            clear HPE HOV
            subst hpe
            have gk := below_cell ((Below.refl wa.heap.size wa).alloc (Nat.le_refl _) (.cells #[.int .i64 x.acc, .int .i64 x.item, .int .u64 x.coins, .int .u64 x.price, .slice x.wa x.ws.length x.wc] 48)) (tabI_cell HG1.out (mIx L k).length HMM.out)
            have hml := mIx_le L k
            generalize (mIx L k).length = mk at *
            have t1 : decide ((mk : Int) ≥ 0) = true := decide_eq_true (by omega)
            have i3 : (mk : Int) < (m : Int) := by have := HMM.out; omega
            clear hm
            go_wp2
            go_meet
            exact ⟨by rw [HIT.out], rfl⟩
          · have hm' : isM L k = false := by simpa using hm
            have HPE := Lib.hid (HOV.out.trans (who_no (n := c.es.length) hm'))
            have HIT := Lib.hid (show itemAt L G k = x.item by unfold itemAt; rw [hm']; exact HGD.out)
            have hpe := HPE.out
            clear HPE HOV
            subst hpe
            have t1 : decide ((-1 : Int) ≥ 0) = false := by decide
            clear hm hm'
            go_wp2
            go_meet
            exact ⟨by rw [HIT.out], rfl⟩
        case rest =>
        obtain ⟨rfl, hwc⟩ := hcut
        have HBE := Lib.hid (show Below wa.heap.size wa (wa.alloc (.cells #[.int .i64 x.acc, .int .i64 x.item, .int .u64 x.coins, .int .u64 x.price, .slice x.wa x.ws.length x.wc] 48)) from (Below.refl _ _).alloc (Nat.le_refl _) _)
        have HRE := Lib.hid (show (wa.alloc (.cells #[.int .i64 x.acc, .int .i64 x.item, .int .u64 x.coins, .int .u64 x.price, .slice x.wa x.ws.length x.wc] 48)).heap[wa.heap.size]? = some (.cells #[.int .i64 x.acc, .int .i64 x.item, .int .u64 x.coins, .int .u64 x.price, .slice x.wa x.ws.length x.wc] 48) from alloc_at rfl)
        rw [hwc] at HBE HRE
        have HSE := Lib.hid (Nat.le_trans HBW.out.size HBE.out.size)
        have HNE := Lib.hid (show some wa.heap.size ≠ v.ownBlock from fun h => by have := (HOO.out.lt _ h.symm).2; omega)
        have HOO := Lib.hid (show wc.ownsRow w1.heap.size 86 3 v (endG c.es L G k).length (gFlat (endG c.es L G k)) from owns_below (B := 0) HOO.out HBE.out)
        have HBW := Lib.hid (HBW.out.trans (HBE.out.mono HBW.out.size))
        have p0 : wc.cell? ⟨wa.heap.size, 0, none⟩ = some (.int .i64 x.acc) := by rw [cell_of_row _ _ _ _ _ _ HRE.out]; rfl
        have p2 : wc.cell? ⟨wa.heap.size, 2, none⟩ = some (.int .u64 x.coins) := by rw [cell_of_row _ _ _ _ _ _ HRE.out]; rfl
        clear hwc HRE f0 f1 f2 f3 f4 t0 i1
        generalize itemAt L G k = y at *
        by_cases hy : y = 0
        · by_cases hcn : x.coins > 0
          · have HG := Lib.hid (show giftE x y = [] ++ [⟨x.acc, 0, x.coins⟩] by unfold giftE; rw [if_neg (fun h => h hy), if_pos hcn])
            have u1 : (y != 0) = false := by simpa using hy
            have u2 : decide (x.coins > 0) = true := decide_eq_true hcn
            clear hy hcn
            go_wp2_with (at_builtin; refine wpList_append_sl rfl _ _ 50 rfl w1.heap.size 86 (.agg #[.int .i64 0, .int .i64 0, .int .u64 0]) 3 24 Try.underlying50 infoG rfl (by decide) v (endG c.es L G k).length (gFlat (endG c.es L G k)) rfl (HOO.out.alloc _) (some ⟨wc.heap.size, 0, none⟩) 1 1 (gFlat [⟨x.acc, 0, x.coins⟩]) rfl (fun h => by cases h) ?gnya1 (sl_new _ _ _ _) (oneCell_gFlat _) ?gnya2 ?gnya3 ?gnya4 ?gnya5)
            case gnya1 => rfl
            case gnya2 => unfold maxLen; have := HLN.out; omega
            case gnya3 => have := HLN.out; omega
            case gnya4 => have := HBW.out.size; simp only [World.size_alloc]; omega
            intro v2 w2 ho2 hg2
            have hb2 : Below w1.heap.size w1 w2 := (HBW.out.alloc HBW.out.size (.cells #[.int .i64 x.acc, .int .i64 0, .int .u64 x.coins] 86)).grown hg2 (HBW.out.alloc HBW.out.size _).size (fun j hj => (HOO.out.lt j hj).1)
            have HO2 := Lib.hid ho2
            have HB2 := Lib.hid hb2
            clear ho2 hg2 hb2
            go_wp2
            go_roundw
            case rel => exact ⟨k + 1, _, rfl, by omega, by go_num, HB2.out, by rw [HES.out, HG.out, List.length_append, gFlat_append]; simpa [gFlat] using HO2.out⟩
            case measure => simp [intOf]; omega
          · have HG := Lib.hid (show giftE x y = [] ++ [] by unfold giftE; rw [if_neg (fun h => h hy), if_neg hcn])
            have u1 : (y != 0) = false := by simpa using hy
            have u2 : decide (x.coins > 0) = false := decide_eq_false hcn
            clear hy hcn
            go_wp2
            go_roundw
            case rel => exact ⟨k + 1, _, rfl, by omega, by go_num, HBW.out, by rw [HES.out, HG.out]; simpa using HOO.out⟩
            case measure => simp [intOf]; omega
        · by_cases hcn : x.coins > 0
          · have HG := Lib.hid (show giftE x y = [⟨x.acc, y, 0⟩] ++ [⟨x.acc, 0, x.coins⟩] by unfold giftE; rw [if_pos hy, if_pos hcn])
            have u1 : (y != 0) = true := by simpa using hy
            have u2 : decide (x.coins > 0) = true := decide_eq_true hcn
            clear hy hcn
            go_wp2_with (at_builtin; refine wpList_append_sl rfl _ _ 50 rfl w1.heap.size 86 (.agg #[.int .i64 0, .int .i64 0, .int .u64 0]) 3 24 Try.underlying50 infoG rfl (by decide) v (endG c.es L G k).length (gFlat (endG c.es L G k)) rfl (HOO.out.alloc _) (some ⟨wc.heap.size, 0, none⟩) 1 1 (gFlat [⟨x.acc, y, 0⟩]) rfl (fun h => by cases h) ?gyya1 (sl_new _ _ _ _) (oneCell_gFlat _) ?gyya2 ?gyya3 ?gyya4 ?gyya5)
            case gyya1 => rfl
            case gyya2 => unfold maxLen; have := HLN.out; omega
            case gyya3 => have := HLN.out; omega
            case gyya4 => have := HBW.out.size; simp only [World.size_alloc]; omega
            intro v2 w2 ho2 hg2
            have hb2 : Below w1.heap.size w1 w2 := (HBW.out.alloc HBW.out.size (.cells #[.int .i64 x.acc, .int .i64 y, .int .u64 0] 86)).grown hg2 (HBW.out.alloc HBW.out.size _).size (fun j hj => (HOO.out.lt j hj).1)
            have HO2 := Lib.hid ho2
            have HB2 := Lib.hid hb2
            have q0 := hg2.cell (below_cell ((Below.refl wc.heap.size wc).alloc (Nat.le_refl _) (.cells #[.int .i64 x.acc, .int .i64 y, .int .u64 0] 86)) p0) HNE.out
            have q2 := hg2.cell (below_cell ((Below.refl wc.heap.size wc).alloc (Nat.le_refl _) (.cells #[.int .i64 x.acc, .int .i64 y, .int .u64 0] 86)) p2) HNE.out
            clear ho2 hg2 hb2 p0 p2
            go_wp2_with (at_builtin; refine wpList_append_sl rfl _ _ 50 rfl w1.heap.size 86 (.agg #[.int .i64 0, .int .i64 0, .int .u64 0]) 3 24 Try.underlying50 infoG rfl (by decide) v2 ((endG c.es L G k).length + 1) (gFlat (endG c.es L G k) ++ gFlat [⟨x.acc, y, 0⟩]) rfl (HO2.out.alloc _) (some ⟨w2.heap.size, 0, none⟩) 1 1 (gFlat [⟨x.acc, 0, x.coins⟩]) rfl (fun h => by cases h) ?gyyb1 (sl_new _ _ _ _) (oneCell_gFlat _) ?gyyb2 ?gyyb3 ?gyyb4 ?gyyb5)
            case gyyb1 => rfl
            case gyyb2 => unfold maxLen; have := HLN.out; omega
            case gyyb3 => have := HLN.out; omega
            case gyyb4 => have := HB2.out.size; simp only [World.size_alloc]; omega
            intro v3 w3 ho3 hg3
            have hb3 : Below w1.heap.size w1 w3 := (HB2.out.alloc HB2.out.size (.cells #[.int .i64 x.acc, .int .i64 0, .int .u64 x.coins] 86)).grown hg3 (HB2.out.alloc HB2.out.size _).size (fun j hj => (HO2.out.lt j hj).1)
            have HO3 := Lib.hid ho3
            have HB3 := Lib.hid hb3
            clear ho3 hg3 hb3
            go_wp2
            go_roundw
            case rel => exact ⟨k + 1, _, rfl, by omega, by go_num, HB3.out, by rw [HES.out, HG.out, List.length_append, gFlat_append, gFlat_append]; first | exact HO3.out | (rw [← List.append_assoc]; exact HO3.out)⟩
            case measure => simp [intOf]; omega
          · have HG := Lib.hid (show giftE x y = [⟨x.acc, y, 0⟩] ++ [] by unfold giftE; rw [if_pos hy, if_neg hcn])
            have u1 : (y != 0) = true := by simpa using hy
            have u2 : decide (x.coins > 0) = false := decide_eq_false hcn
            clear hy hcn
            go_wp2_with (at_builtin; refine wpList_append_sl rfl _ _ 50 rfl w1.heap.size 86 (.agg #[.int .i64 0, .int .i64 0, .int .u64 0]) 3 24 Try.underlying50 infoG rfl (by decide) v (endG c.es L G k).length (gFlat (endG c.es L G k)) rfl (HOO.out.alloc _) (some ⟨wc.heap.size, 0, none⟩) 1 1 (gFlat [⟨x.acc, y, 0⟩]) rfl (fun h => by cases h) ?gyna1 (sl_new _ _ _ _) (oneCell_gFlat _) ?gyna2 ?gyna3 ?gyna4 ?gyna5)
            case gyna1 => rfl
            case gyna2 => unfold maxLen; have := HLN.out; omega
            case gyna3 => have := HLN.out; omega
            case gyna4 => have := HBW.out.size; simp only [World.size_alloc]; omega
            intro v2 w2 ho2 hg2
            have hb2 : Below w1.heap.size w1 w2 := (HBW.out.alloc HBW.out.size (.cells #[.int .i64 x.acc, .int .i64 y, .int .u64 0] 86)).grown hg2 (HBW.out.alloc HBW.out.size _).size (fun j hj => (HOO.out.lt j hj).1)
            have HO2 := Lib.hid ho2
            have HB2 := Lib.hid hb2
            have q2 := hg2.cell (below_cell ((Below.refl wc.heap.size wc).alloc (Nat.le_refl _) (.cells #[.int .i64 x.acc, .int .i64 y, .int .u64 0] 86)) p2) HNE.out
            clear ho2 hg2 hb2
            go_wp2
            go_roundw
            case rel => exact ⟨k + 1, _, rfl, by omega, by go_num, HB2.out, by rw [HES.out, HG.out, List.length_append, gFlat_append]; simpa [gFlat] using HO2.out⟩
            case measure => simp [intOf]; omega
end Go.Proofs.Ytpikmcapnmdmbaa
