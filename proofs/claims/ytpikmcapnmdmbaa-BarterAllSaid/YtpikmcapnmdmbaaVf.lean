/-
  Layer 22: the statements' balance: where gifts are what entries hold.
-/
import Derived.Test.YtpikmcapnmdmbaaVe
import Derived.Test.YtpikmcapnmdmbaaVd
import Derived.Test.YtpikmcapnmdmbaaNum
namespace Go.Proofs.Ytpikmcapnmdmbaa
open Go.RowKit Go.K Go.Maps
set_option linter.unusedVariables false
set_option linter.unusedSimpArgs false
theorem IntP.grown {P : Nat → Prop} {W W' : World} {g : Nat} {z : Int} {row : Option Nat} (h : n01.IntP P W g z) (hg : W.grownBy W' row) (hne : row ≠ some g) (hP : ∀ b, P b → row ≠ some b) : n01.IntP P W' g z := by
  obtain ⟨b, a, c, l, h1, h2, h3, h4, h5, h6, h7⟩ := h
  refine ⟨b, a, c, l, row_past h1 hg hne.symm, ?_, h3, h4, h5, h6, h7⟩
  intro hn
  obtain ⟨b2, o2, he, hc⟩ := h2 hn
  refine ⟨b2, o2, he, fun i hi => ?_⟩
  have h8 := hc i hi
  rw [List.getElem?_eq_getElem hi] at h8 ⊢
  exact hg.cell h8 (fun e => hP b2 (h7 _ he (fun e2 => hn (by rw [e2]; rfl))) e.symm)
theorem IntP.below {P : Nat → Prop} {W W' : World} {g : Nat} {z : Int} (h : n01.IntP P W g z) (hb : Below W.heap.size W W') : n01.IntP P W' g z := IntP.grown h (grown_below hb none) (by simp) (fun _ _ => by simp)
theorem IntP.app {W W2 W' : World} {v v' : Value} {g : Nat} {z : Int} (h : n01.IntP (fun b => some b ≠ v.ownBlock) W g z) (hb : Below W.heap.size W W2) (hg : W2.grownBy W' v.ownBlock) (hgv : v.ownBlock ≠ some g) (hl : v'.ownBlock = v.ownBlock ∨ v'.ownBlock = some W2.heap.size) :
    n01.IntP (fun b => some b ≠ v'.ownBlock) W' g z := by
  have h1 := h.mono (Q := fun b => b < W.heap.size ∧ some b ≠ v.ownBlock) (fun b h1 h2 => ⟨h1, h2⟩)
  have h2 := IntP.below h1 hb
  have h3 := IntP.grown h2 hg hgv (fun b hb e => hb.2 e.symm)
  refine h3.mono fun b _ hb2 e => ?_
  rcases hl with e2 | e2
  · exact hb2.2 (e.trans e2)
  · have := Option.some.inj (e.trans e2)
    have := hb.size
    omega
theorem IntP.only {P S : Nat → Prop} {W W' : World} {g : Nat} {z : Int} (h : n01.IntP P W g z) (ho : Only S W W') (hg : ¬ S g) (hP : ∀ b, P b → ¬ S b) : n01.IntP P W' g z := by
  obtain ⟨b, a, c, l, h1, h2, h3, h4, h5, h6, h7⟩ := h
  exact ⟨b, a, c, l, ho.row h1 hg, ho.sl h2 (fun y hy hn => hP _ (h7 y hy (fun e2 => hn (by rw [e2]; rfl)))), h3, h4, h5, h6, h7⟩
theorem intP_zero (W : World) : n01.IntP (fun _ => False) (W.alloc (.cells #[.bool false, .slice none 0 0] 82)) W.heap.size 0 :=
  ⟨false, none, 0, [], alloc_at rfl, Sl.nil _ _, Words.norm_nil, Nat.le_refl _, rfl, (fun h => by cases h), fun x hx => by cases hx⟩
theorem bv_small' (x : BitVec 64) : ((x.toNat : Nat) : Int).natAbs < Words.pw 900 := by
  apply pw_big
  have := x.isLt
  omega
/-- A step of a sum: a new number, then added. -/
structure SumI (w : World) (H : Nat) (z : Int) (v : Value) (W : World) : Prop where
  at' : n01.IntP (fun b => some b ≠ v.ownBlock) W H z
set_option maxRecDepth 100000 in
set_option maxHeartbeats 4000000 in
theorem balance_true (c : Con) (ga : Option Addr) (gc : Nat) (gs : List Gi) (w : World) (hc : ConOk w c) (hn : c.es.length ≤ 3000) (hg : Sl w ga (gFlat gs)) (hgn : gs.length ≤ 6000) (hgw : ∀ g ∈ gs, (Lit.int .u64 g.coins).wf = true)
    (hp : (nz (gs.map Gi.item)).Perm (nz (c.es.map Ent.item))) (hs : sumC (gs.map Gi.coins) = sumC (c.es.map Ent.coins)) (hwh : ∀ g ∈ gs, (g.item = 0 ∧ g.coins ≠ 0) ∨ (g.item ≠ 0 ∧ g.coins = 0)) :
    Calls Try.prog 27 #[c.agg, .slice ga gs.length gc] w fun r w' => r = .returned (.bool true) ∧ Below w.heap.size w w' := by
  have HC := Lib.hid hc
  have HG := Lib.hid hg
  have HN := Lib.hid hn
  have HGN := Lib.hid hgn
  have HGW := Lib.hid hgw
  have HP := Lib.hid hp
  have HSU := Lib.hid hs
  have HWH := Lib.hid hwh
  have HCB := Lib.hid (show ∀ x ∈ c.es.map Ent.coins, 0 ≤ x ∧ x ≤ 18446744073709551615 from fun x hx => by
    obtain ⟨e, he, rfl⟩ := List.mem_map.1 hx
    obtain ⟨y, hy⟩ := u64_of_wf (hc.ents e he).cw
    rw [hy]; exact ⟨U64_lo y, U64_hi y⟩)
  have HGB := Lib.hid (show ∀ x ∈ gs.map Gi.coins, 0 ≤ x ∧ x ≤ 18446744073709551615 from fun x hx => by
    obtain ⟨e, he, rfl⟩ := List.mem_map.1 hx
    obtain ⟨y, hy⟩ := u64_of_wf (hgw e he)
    rw [hy]; exact ⟨U64_lo y, U64_hi y⟩)
  have HBX := Lib.hid (show Box (w.alloc (.cells #[.int .i64 c.num, .int .i64 c.kind, .int .i64 c.by', .int .i64 c.dl, .int .i64 c.to', .int .i64 c.want, .int .u64 c.price, .int .u64 c.reserve, .int .u64 c.step, .int .i64 c.of', .slice c.ea c.es.length c.ec] 45)) w.heap.size c from alloc_at rfl)
  clear hc hg hgw hp hs hwh
  unfold Con.agg
  go_enter Try.func27, Try.ntmps27
  go_wp2
  refine wp_world (fun W => Below w.heap.size w W ∧ Box W w.heap.size c ∧ n01.IntP (fun _ => False) W (w.heap.size + 1) 0 ∧ n01.IntP (fun _ => False) W (w.heap.size + 2) 0)
    ⟨(((Below.refl _ _).alloc (Nat.le_refl _) _).alloc (by simp) _).alloc (by simp; omega) _, (HBX.out.alloc _).alloc _, ?_, ?_⟩ ?_
  · have := intP_zero (w.alloc (.cells #[.int .i64 c.num, .int .i64 c.kind, .int .i64 c.by', .int .i64 c.dl, .int .i64 c.to', .int .i64 c.want, .int .u64 c.price, .int .u64 c.reserve, .int .u64 c.step, .int .i64 c.of', .slice c.ea c.es.length c.ec] 45))
    rw [World.size_alloc] at this
    exact IntP.below this ((Below.refl _ _).alloc (Nat.le_refl _) _)
  · have := intP_zero ((w.alloc (.cells #[.int .i64 c.num, .int .i64 c.kind, .int .i64 c.by', .int .i64 c.dl, .int .i64 c.to', .int .i64 c.want, .int .u64 c.price, .int .u64 c.reserve, .int .u64 c.step, .int .i64 c.of', .slice c.ea c.es.length c.ec] 45)).alloc (.cells #[.bool false, .slice none 0 0] 82))
    rw [World.size_alloc, World.size_alloc] at this
    exact this
  intro W0 hw0
  have HW0 := Lib.hid hw0
  clear hw0
  go_loopw [7, 9] (fun v' i wr => ∃ (k : Nat) (v : Value), v = v' ∧ k ≤ c.es.length ∧ i = .int .i64 k ∧ Below w.heap.size w wr ∧ Box wr w.heap.size c ∧ n01.IntP (fun b => some b ≠ v.ownBlock) wr (w.heap.size + 1) (sumC ((c.es.map Ent.coins).take k)) ∧ n01.IntP (fun _ => False) wr (w.heap.size + 2) 0 ∧
      wr.ownsRow (w.heap.size + 3) 3 1 v (nz ((c.es.map Ent.item).take k)).length (vI (nz ((c.es.map Ent.item).take k)))) (fun _ i _ => c.es.length - (intOf i).toNat)
  case atStart => exact ⟨0, _, rfl, by omega, rfl, HW0.out.1, HW0.out.2.1, HW0.out.2.2.1.mono (fun _ _ h => h.elim), HW0.out.2.2.2, World.ownsRow_nil _ _ _ _⟩
  case round =>
    clear HW0 HBX
    obtain ⟨k, v, hv, hk, rfl, hb, hbx, hi1, hi2, hr⟩ := hrel
    subst hv
    have HB := Lib.hid hb
    have HBX := Lib.hid hbx
    have HI1 := Lib.hid hi1
    have HI2 := Lib.hid hi2
    have HR := Lib.hid hr
    have z10 := hbx.cells.2.2.2.2.2.2.2.2.2.2
    clear hb hbx hi1 hi2 hr
    by_cases hlt : k < c.es.length
    case pos =>
      have t0 : decide ((k : Int) < (c.es.length : Int)) = true := by simp; omega
      have i1 : (k : Int) < (c.es.length : Int) := by omega
      obtain ⟨ob, oo, hea, f0, f1, f2, f3, f4⟩ := ent_at HC.out.sl k hlt
      have HEA := Lib.hid hea
      clear hea
      rw [HEA.out] at z10
      have hob : ob < w.heap.size := World.block_lt_of_cell? _ _ f1
      have HF1 := Lib.hid f1
      have HF2 := Lib.hid f2
      have HS1 := Lib.hid (sumC_succ (c.es.map Ent.coins) k (by simpa using hlt))
      have HS2 := Lib.hid (nz_succ (c.es.map Ent.item) k (by simpa using hlt))
      have HSM := Lib.hid (sumC_small (c.es.map Ent.coins) HCB.out (by simp; omega) k)
      have HNL := Lib.hid (show (nz ((c.es.map Ent.item).take k)).length ≤ 3000 by have := nz_length ((c.es.map Ent.item).take k); rw [List.length_take, List.length_map] at this; omega)
      obtain ⟨cx, hcx⟩ := u64_of_wf (HC.out.ents _ (List.getElem_mem hlt)).cw
      have HCX := Lib.hid (show (c.es.map Ent.coins)[k]'(by simpa using hlt) = ((cx.toNat : Nat) : Int) by rw [List.getElem_map, hcx]; rfl)
      have HIX := Lib.hid (show (c.es.map Ent.item)[k]'(by simpa using hlt) = c.es[k].item by rw [List.getElem_map])
      have HSZ := Lib.hid (show w.heap.size + 3 ≤ wr.heap.size by
        obtain ⟨_, _, _, _, h1, _⟩ := HI2.out
        have := lt_row h1; omega)
      have hbA : Below wr.heap.size wr (wr.alloc (.cells #[.bool false, .slice none 0 0] 82)) := (Below.refl _ _).alloc (Nat.le_refl _) _
      have HBA := Lib.hid hbA
      have q10 := below_cell hbA z10
      have q2 := below_cell (HB.out.trans (hbA.mono HB.out.size)) f2
      rw [hcx] at q2
      have K56 := Lib.hid (n01.set64_any wr.heap.size cx (wr.alloc (.cells #[.bool false, .slice none 0 0] 82)) (n01.isInt_new wr))
      clear f0 f1 f2 f3 f4 hcx hbA
      generalize hxi : c.es[k].item = xi at *
      clear hxi
      go_wp2_with fail
      refine K56.out.mono ?_
      rintro r0 w1 ⟨rfl, hg1, hj⟩
      have HG1 := Lib.hid hg1
      have HJ := Lib.hid hj
      have HI1' := Lib.hid (IntP.grown (IntP.below (HI1.out.mono (Q := fun b => b < wr.heap.size ∧ some b ≠ v.ownBlock) (fun b h1 h2 => ⟨h1, h2⟩)) HBA.out) hg1 (fun e => by injection e with e; have := HSZ.out; omega) (fun b hb e => by injection e with e; have := hb.1; omega))
      have HI2' := Lib.hid (IntP.grown (IntP.below HI2.out HBA.out) hg1 (fun e => by injection e with e; have := HSZ.out; omega) (fun b hb e => hb.elim))
      have HR' := Lib.hid ((HR.out.alloc (.cells #[.bool false, .slice none 0 0] 82)).kept hg1 (.inr (fun e => by have := (HR.out.lt _ e).2; omega)))
      have HB1 := Lib.hid (show Below w.heap.size w w1 from (HB.out.trans (HBA.out.mono HB.out.size)).grown hg1 (HB.out.trans (HBA.out.mono HB.out.size)).size (fun j hj => by cases hj; exact HB.out.size))
      have HBX1 := Lib.hid (show Box w1 w.heap.size c from row_past (HBX.out.kept HBA.out) hg1 (fun e => by injection e with e; have := HSZ.out; omega))
      have HS1' := Lib.hid (show wr.heap.size ≤ w1.heap.size from Nat.le_trans HBA.out.size hg1.size)
      clear hg1 hj z10 q10 q2 K56 HI1 HI2 HR HBX
      have K55 := Lib.hid (n01.add_new (w.heap.size + 1) (w.heap.size + 1) wr.heap.size _ _ w1 HI1'.out.at'.isInt HI1'.out.at' HJ.out HSM.out (bv_small' cx))
      go_wp2_with fail
      refine K55.out.mono ?_
      rintro r0 w2 ⟨rfl, hg2, hi⟩
      have HI1 := Lib.hid (show n01.IntP (fun b => some b ≠ v.ownBlock) w2 (w.heap.size + 1) (sumC ((c.es.map Ent.coins).take (k + 1))) from by
        have h1 := hi.mono (Q := fun b => some b ≠ v.ownBlock) (fun b _ hb e => by have := (HR'.out.lt b e.symm).2; omega)
        rw [HS1.out, HCX.out]; exact h1)
      have HI2 := Lib.hid (IntP.grown HI2'.out hg2 (fun e => by injection e with e; omega) (fun b hb e => hb.elim))
      have HR := Lib.hid (HR'.out.kept hg2 (.inr (fun e => by have := (HR'.out.lt _ e).1; omega)))
      have HB2 := Lib.hid (show Below w.heap.size w w2 from HB1.out.grown hg2 HB1.out.size (fun j hj => by cases hj; omega))
      have HBX2 := Lib.hid (show Box w2 w.heap.size c from row_past HBX1.out hg2 (fun e => by injection e with e; omega))
      have HSZ2 := Lib.hid (show w.heap.size + 3 ≤ w2.heap.size from Nat.le_trans HSZ.out (Nat.le_trans HS1'.out hg2.size))
      clear hg2 hi K55 HI1' HI2' HR' HB1 HBX1
      have z10 := HBX2.out.cells.2.2.2.2.2.2.2.2.2.2
      rw [HEA.out] at z10
      have q1 := below_cell HB2.out HF1.out
      by_cases hxi : xi = 0
      · have u1 : (xi != 0) = false := by simpa using hxi
        have HZ := Lib.hid (show nz ((c.es.map Ent.item).take (k + 1)) = nz ((c.es.map Ent.item).take k) by rw [HS2.out, HIX.out, if_neg (fun h => h hxi), List.append_nil])
        clear hxi
        go_wp2
        go_roundw
        case rel => exact ⟨k + 1, v, rfl, by omega, by go_num, HB2.out, HBX2.out, HI1.out, HI2.out, by rw [HZ.out]; exact HR.out⟩
        case measure => simp [intOf]; omega
      · have u1 : (xi != 0) = true := by simpa using hxi
        have HZ := Lib.hid (show nz ((c.es.map Ent.item).take (k + 1)) = nz ((c.es.map Ent.item).take k) ++ [xi] by rw [HS2.out, HIX.out, if_pos hxi])
        clear hxi
        go_wp2_with (at_builtin; refine wpList_append_sl_at rfl _ _ 22 rfl (w.heap.size + 3) 3 (.int .i64 0) 1 8 Try.underlying22 infoI rfl (by decide) v (nz ((c.es.map Ent.item).take k)).length (vI (nz ((c.es.map Ent.item).take k))) rfl (HR.out.alloc _) (some ⟨w2.heap.size, 0, none⟩) 1 1 [.int .i64 xi] rfl (fun h => by cases h) rfl (sl_new _ _ _ _) (one_int _ _) ?a2 ?a3 ?a4 ?a5)
        case a2 => have := HNL.out; unfold maxLen; omega
        case a3 => have := HNL.out; omega
        case a4 => have := HSZ2.out; simp only [World.size_alloc]; omega
        intro v2 w3 ho hg3 hl
        have hba : Below w2.heap.size w2 (w2.alloc (.cells #[.int .i64 xi] 3)) := (Below.refl _ _).alloc (Nat.le_refl _) _
        have hbb := HB2.out.trans (hba.mono HB2.out.size)
        have HI1'' := Lib.hid (IntP.app HI1.out hba hg3 (fun e => by have := (HR.out.lt _ e).1; omega) (by rw [World.size_alloc]; exact hl))
        have HI2'' := Lib.hid (IntP.grown (IntP.below HI2.out hba) hg3 (fun e => by have := (HR.out.lt _ e).1; omega) (fun b hb e => hb.elim))
        have HB3 := Lib.hid (show Below w.heap.size w w3 from hbb.grown hg3 hbb.size (fun j hj => by have := (HR.out.lt j hj).1; omega))
        have HBX3 := Lib.hid (show Box w3 w.heap.size c from row_past (HBX2.out.kept hba) hg3 (fun e => by have := (HR.out.lt _ e.symm).1; omega))
        have HO := Lib.hid ho
        clear ho hg3 hl hba hbb z10 q1
        go_wp2
        go_roundw
        case rel => exact ⟨k + 1, v2, rfl, by omega, by go_num, HB3.out, HBX3.out, HI1''.out, HI2''.out, by rw [HZ.out, List.length_append, vI_append]; exact HO.out⟩
        case measure => simp [intOf]; omega
    case neg =>
      have t0 : decide ((k : Int) < (c.es.length : Int)) = false := by simp; omega
      have hke : k = c.es.length := by omega
      have HI1 := Lib.hid (show n01.IntP (fun b => some b ≠ v.ownBlock) wr (w.heap.size + 1) (sumC (c.es.map Ent.coins)) by have := HI1.out; rw [hke, List.take_of_length_le (by simp)] at this; exact this)
      have HR := Lib.hid (show wr.ownsRow (w.heap.size + 3) 3 1 v (nz (c.es.map Ent.item)).length (vI (nz (c.es.map Ent.item))) by have := HR.out; rw [hke, List.take_of_length_le (by simp)] at this; exact this)
      have HSZ := Lib.hid (show w.heap.size + 3 ≤ wr.heap.size by
        obtain ⟨_, _, _, _, h1, _⟩ := HI2.out
        have := lt_row h1; omega)
      obtain ⟨W1, hW1⟩ : ∃ W, W = wr := ⟨_, rfl⟩
      subst hW1
      have HAL := Lib.hid (show (nz (c.es.map Ent.item)).length ≤ 3000 by have := nz_length (c.es.map Ent.item); rw [List.length_map] at this; omega)
      have HZB := Lib.hid (show (sumC (c.es.map Ent.coins)).natAbs < Words.pw 900 by have := sumC_small (c.es.map Ent.coins) HCB.out (by have := HN.out; simp; omega) c.es.length; rw [List.take_of_length_le (by simp)] at this; exact this)
      generalize nz (c.es.map Ent.item) = A at *
      generalize sumC (c.es.map Ent.coins) = zH at *
      clear hke HBX hk hn
      go_wp2
      clear z10
      go_loopw [8, 10] (fun v' i wr => ∃ (k : Nat) (u : Value), u = v' ∧ k ≤ gs.length ∧ i = .int .i64 k ∧ Only (fun b => b = w.heap.size + 2) W1 wr ∧ n01.IntP (fun b => some b ≠ u.ownBlock) wr (w.heap.size + 2) (sumC ((gs.map Gi.coins).take k)) ∧
        wr.ownsRow W1.heap.size 3 1 u (nz ((gs.map Gi.item).take k)).length (vI (nz ((gs.map Gi.item).take k)))) (fun _ i _ => gs.length - (intOf i).toNat)
      case atStart => exact ⟨0, _, rfl, by omega, rfl, Only.refl _ _, HI2.out.mono (fun _ _ h => h.elim), World.ownsRow_nil _ _ _ _⟩
      case round =>
        obtain ⟨wa, hwa⟩ : ∃ W, W = wr := ⟨_, rfl⟩
        subst hwa
        obtain ⟨k, u, hu, hk, rfl, ho, hi, hr⟩ := hrel
        subst hu
        have HO := Lib.hid ho
        have HI := Lib.hid hi
        have HRu := Lib.hid hr
        have HB2 := Lib.hid (show Below w.heap.size w wa from HB.out.trans (ho.below HB.out.size (fun b hb => by omega)))
        clear ho hi hr
        by_cases hlt : k < gs.length
        case pos =>
          have t0 : decide ((k : Int) < (gs.length : Int)) = true := by simp; omega
          have i1 : (k : Int) < (gs.length : Int) := by omega
          obtain ⟨ob, oo, hga, x0, x1, x2⟩ := gift_at HG.out k hlt
          subst hga
          have hob : ob < w.heap.size := World.block_lt_of_cell? _ _ x1
          have HX1 := Lib.hid x1
          have HS1 := Lib.hid (sumC_succ (gs.map Gi.coins) k (by simpa using hlt))
          have HS2 := Lib.hid (nz_succ (gs.map Gi.item) k (by simpa using hlt))
          have HSM := Lib.hid (sumC_small (gs.map Gi.coins) HGB.out (by have := HGN.out; simp; omega) k)
          have HNL := Lib.hid (show (nz ((gs.map Gi.item).take k)).length ≤ 6000 by have := nz_length ((gs.map Gi.item).take k); have := HGN.out; rw [List.length_take, List.length_map] at *; omega)
          have hwk := HWH.out _ (List.getElem_mem hlt)
          obtain ⟨cx, hcx⟩ := u64_of_wf (HGW.out _ (List.getElem_mem hlt))
          have HCX := Lib.hid (show (gs.map Gi.coins)[k]'(by simpa using hlt) = ((cx.toNat : Nat) : Int) by rw [List.getElem_map, hcx]; rfl)
          have HIX := Lib.hid (show (gs.map Gi.item)[k]'(by simpa using hlt) = gs[k].item by rw [List.getElem_map])
          have HSZa := Lib.hid (show W1.heap.size ≤ wa.heap.size from HO.out.size)
          have hbA : Below wa.heap.size wa (wa.alloc (.cells #[.bool false, .slice none 0 0] 82)) := (Below.refl _ _).alloc (Nat.le_refl _) _
          have HBA := Lib.hid hbA
          have q2 := below_cell (HB2.out.trans (hbA.mono HB2.out.size)) x2
          rw [hcx] at q2 hwk x2
          have HX2 := Lib.hid x2
          have K56 := Lib.hid (n01.set64_any wa.heap.size cx (wa.alloc (.cells #[.bool false, .slice none 0 0] 82)) (n01.isInt_new wa))
          clear x0 x1 x2 hcx hbA
          generalize gs[k].item = xi at *
          have HWK := Lib.hid hwk
          clear hwk
          go_wp2_with fail
          refine K56.out.mono ?_
          rintro r0 w1 ⟨rfl, hg1, hj⟩
          have HJ := Lib.hid hj
          have HIa := Lib.hid (IntP.grown (IntP.below (HI.out.mono (Q := fun b => b < wa.heap.size ∧ some b ≠ u.ownBlock) (fun b h1 h2 => ⟨h1, h2⟩)) HBA.out) hg1 (fun e => by injection e with e; have := HSZ.out; have := HSZa.out; omega) (fun b hb e => by injection e with e; have := hb.1; omega))
          have HRa := Lib.hid ((HRu.out.alloc (.cells #[.bool false, .slice none 0 0] 82)).kept hg1 (.inr (fun e => by have := (HRu.out.lt _ e).2; omega)))
          have HOa := Lib.hid (show Only (fun b => b = w.heap.size + 2) W1 w1 from (HO.out.trans (Only.of_below (S := fun _ => False) HBA.out) (fun _ h => h.elim)).trans (Only.of_grown (S := fun b => b = wa.heap.size) hg1 (fun j hj => by cases hj; rfl)) (fun b hb => .inr (by have := HSZa.out; omega)))
          have HS1' := Lib.hid (show wa.heap.size ≤ w1.heap.size from Nat.le_trans HBA.out.size hg1.size)
          clear hg1 hj q2 K56 HI HRu HO
          have K55 := Lib.hid (n01.add_new (w.heap.size + 2) (w.heap.size + 2) wa.heap.size _ _ w1 HIa.out.at'.isInt HIa.out.at' HJ.out HSM.out (bv_small' cx))
          go_wp2_with fail
          refine K55.out.mono ?_
          rintro r0 w2 ⟨rfl, hg2, hi⟩
          have HI := Lib.hid (show n01.IntP (fun b => some b ≠ u.ownBlock) w2 (w.heap.size + 2) (sumC ((gs.map Gi.coins).take (k + 1))) from by
            have h1 := hi.mono (Q := fun b => some b ≠ u.ownBlock) (fun b _ hb e => by have := (HRa.out.lt b e.symm).2; omega)
            rw [HS1.out, HCX.out]; exact h1)
          have HRu := Lib.hid (HRa.out.kept hg2 (.inr (fun e => by have := (HRa.out.lt _ e).1; have := HSZ.out; omega)))
          have HO := Lib.hid (show Only (fun b => b = w.heap.size + 2) W1 w2 from HOa.out.trans (Only.of_grown (S := fun b => b = w.heap.size + 2) hg2 (fun j hj => by cases hj; rfl)) (fun b hb => .inl hb))
          have HB3 := Lib.hid (show Below w.heap.size w w2 from HB.out.trans (HO.out.below HB.out.size (fun b hb => by omega)))
          have HSZ2 := Lib.hid (show W1.heap.size ≤ w2.heap.size from HO.out.size)
          clear hg2 hi K55 HIa HRa HOa
          have q1 := below_cell HB3.out HX1.out
          have q2 := below_cell HB3.out HX2.out
          by_cases hxi : xi = 0
          · have hc0 : U64 cx ≠ 0 := by
              rcases HWK.out with ⟨_, h⟩ | ⟨h, _⟩
              · exact h
              · exact absurd hxi h
            have u1 : (xi != 0) = false := by simpa using hxi
            have u2 : (xi == 0) = true := by simpa using hxi
            have u3 : (U64 cx == 0) = false := by simpa using hc0
            have u4 : (U64 cx != 0) = true := by simpa using hc0
            have HZ := Lib.hid (show nz ((gs.map Gi.item).take (k + 1)) = nz ((gs.map Gi.item).take k) by rw [HS2.out, HIX.out, if_neg (fun h => h hxi), List.append_nil])
            clear hxi hc0
            go_wp2
            go_roundw
            case rel => exact ⟨k + 1, u, rfl, by omega, by go_num, HO.out, HI.out, by rw [HZ.out]; exact HRu.out⟩
            case measure => simp [intOf]; omega
          · have hc0 : U64 cx = 0 := by
              rcases HWK.out with ⟨h, _⟩ | ⟨_, h⟩
              · exact absurd h hxi
              · exact h
            have u1 : (xi != 0) = true := by simpa using hxi
            have u2 : (xi == 0) = false := by simpa using hxi
            have u3 : (U64 cx == 0) = true := by simpa using hc0
            have u4 : (U64 cx != 0) = false := by simpa using hc0
            have HZ := Lib.hid (show nz ((gs.map Gi.item).take (k + 1)) = nz ((gs.map Gi.item).take k) ++ [xi] by rw [HS2.out, HIX.out, if_pos hxi])
            clear hxi hc0
            go_wp2_with (at_builtin; refine wpList_append_sl_at rfl _ _ 22 rfl W1.heap.size 3 (.int .i64 0) 1 8 Try.underlying22 infoI rfl (by decide) u (nz ((gs.map Gi.item).take k)).length (vI (nz ((gs.map Gi.item).take k))) rfl (HRu.out.alloc _) (some ⟨w2.heap.size, 0, none⟩) 1 1 [.int .i64 xi] rfl (fun h => by cases h) rfl (sl_new _ _ _ _) (one_int _ _) ?b2 ?b3 ?b4 ?b5)
            case b2 => have := HNL.out; unfold maxLen; omega
            case b3 => have := HNL.out; omega
            case b4 => have := HSZ2.out; simp only [World.size_alloc]; omega
            intro u2 w3 ho hg3 hl
            have hba : Below w2.heap.size w2 (w2.alloc (.cells #[.int .i64 xi] 3)) := (Below.refl _ _).alloc (Nat.le_refl _) _
            have HI'' := Lib.hid (IntP.app HI.out hba hg3 (fun e => by have := (HRu.out.lt _ e).1; have := HSZ.out; omega) (by rw [World.size_alloc]; exact hl))
            have HO3 := Lib.hid (show Only (fun b => b = w.heap.size + 2) W1 w3 from (HO.out.trans (Only.of_below (S := fun _ => False) hba) (fun _ h => h.elim)).trans (Only.of_grown (S := fun b => W1.heap.size ≤ b) hg3 (fun j hj => (HRu.out.lt j hj).1)) (fun b hb => .inr hb))
            have q1' := below_cell (HB.out.trans (HO3.out.below HB.out.size (fun b hb => by omega))) HX1.out
            have q2' := below_cell (HB.out.trans (HO3.out.below HB.out.size (fun b hb => by omega))) HX2.out
            have HOW := Lib.hid ho
            clear ho hg3 hl hba q1 q2
            go_wp2
            go_roundw
            case rel => exact ⟨k + 1, u2, rfl, by omega, by go_num, HO3.out, HI''.out, by rw [HZ.out, List.length_append, vI_append]; exact HOW.out⟩
            case measure => simp [intOf]; omega
        case neg =>
          have t0 : decide ((k : Int) < (gs.length : Int)) = false := by simp; omega
          have hke : k = gs.length := by omega
          have HI := Lib.hid (show n01.IntP (fun b => some b ≠ u.ownBlock) wa (w.heap.size + 2) zH by have := HI.out; rw [hke, List.take_of_length_le (by simp), HSU.out] at this; exact this)
          have HRu := Lib.hid (show wa.ownsRow W1.heap.size 3 1 u (nz (gs.map Gi.item)).length (vI (nz (gs.map Gi.item))) by have := HRu.out; rw [hke, List.take_of_length_le (by simp)] at this; exact this)
          have HIh := Lib.hid (show n01.IntP (fun b => some b ≠ u.ownBlock) wa (w.heap.size + 1) zH from by
            have h1 := IntP.only HI1.out.at'.p HO.out (by omega) (fun b hb e => hb.2 _ HI2.out.at'.isInt e)
            exact h1.mono (fun b _ hb e => by have := (HRu.out.lt b e.symm).1; have := hb.1; omega))
          obtain ⟨a7, k7, hv7, hn7, hs7, hle7⟩ := owns_slice HR.out
          subst hv7
          have h7lt : ∀ x, a7 = some x → vI A ≠ [] → x.block < W1.heap.size := hs7.lt
          have HS7 := Lib.hid (show Sl wa a7 (vI A) from HO.out.sl hs7 (fun y hy hn e => by have := (HR.out.lt y.block (by rw [hy]; rfl)).1; omega))
          have H7 := Lib.hid h7lt
          generalize hg8 : u.ownBlock = g8 at *
          have HG8 := Lib.hid hg8
          have HGE := Lib.hid (show ∀ b, some b = g8 → W1.heap.size ≤ b from fun b hb => (HRu.out.lt b (hg8.trans hb.symm)).1)
          have HPM := Lib.hid HP.out
          have HLM := Lib.hid (show (nz (gs.map Gi.item)).length ≤ 3000 by rw [HP.out.length_eq]; exact HAL.out)
          generalize nz (gs.map Gi.item) = O0 at *
          clear hke hn7 hs7 hle7 h7lt hg8 hk
          go_wp2
          go_loopw [8, 11, 12, 13] (fun v' i s12 s13 wr => ∃ (k : Nat) (u : Value) (O : List Int), u = v' ∧ k ≤ A.length ∧ i = .int .i64 k ∧ O.Perm (A.drop k) ∧ O.length ≤ 3000 ∧ (O ≠ [] → u.ownBlock = g8) ∧ Only (fun b => some b = g8) wa wr ∧ wr.ownsRow W1.heap.size 3 1 u O.length (vI O)) (fun _ i _ _ _ => A.length - (intOf i).toNat)
          case atStart => exact ⟨0, u, O0, rfl, by omega, rfl, HPM.out, HLM.out, fun _ => HG8.out, Only.refl _ _, HRu.out⟩
          case round =>
            obtain ⟨wb, hwb⟩ : ∃ W, W = wr := ⟨_, rfl⟩
            subst hwb
            obtain ⟨k, u, O, hu, hk, rfl, hp, hol, hug, ho, hr⟩ := hrel
            subst hu
            have HPO := Lib.hid hp
            have HOB := Lib.hid ho
            have HUG := Lib.hid hug
            have HRo := Lib.hid hr
            clear hp ho hr hug
            have hal := HAL.out
            by_cases hlt : k < A.length
            case pos =>
              have t0 : decide ((k : Int) < (A.length : Int)) = true := by simp; omega
              have i1 : (k : Int) < (A.length : Int) := by omega
              have HLEN := Lib.hid (show O.length = A.length - k by rw [HPO.out.length_eq, List.length_drop])
              obtain ⟨m, hm⟩ : ∃ m, O.length = m + 1 := ⟨O.length - 1, by have := HLEN.out; omega⟩
              have HM := Lib.hid hm
              obtain ⟨g, cap, cur, hu, hgg, hrow, hle, hcm, hsz, htk⟩ := owns_cases HRo.out (by omega)
              subst hu
              rw [hm] at hle
              have HROW := Lib.hid (And.intro hrow (And.intro hsz htk))
              have HSO := Lib.hid (sl_of_owns HRo.out)
              have HSA := Lib.hid (show Sl wb a7 (vI A) from HOB.out.sl HS7.out (fun y hy hn e => by have := H7.out y hy hn; have := HGE.out _ e; omega))
              have hg8e : some g = g8 := HUG.out (fun e => by rw [e] at hm; simp at hm)
              have HGG := Lib.hid (And.intro hgg hg8e)
              obtain ⟨b7, o7, ha7, z7⟩ := int_at HSA.out k hlt
              subst ha7
              have HAK := Lib.hid (show A.drop k = A[k] :: A.drop (k + 1) from List.drop_eq_getElem_cons hlt)
              generalize A[k] = a at *
              have hcm' := hcm
              have HCM := Lib.hid hcm
              unfold maxLen at hcm'
              rw [hm]
              clear hrow hsz htk hcm hgg hg8e hm
              go_wp2
              go_loopw [12, 13] (fun s12 s13 wr => ∃ q : Nat, q ≤ m + 1 ∧ s13 = .int .i64 q ∧ s12 = .int .i64 (lastAt O a q) ∧ Qt wb wr) (fun _ i _ => m + 1 - (intOf i).toNat)
              case atStart => exact ⟨0, by omega, rfl, rfl, Qt.refl _⟩
              case round =>
                obtain ⟨q, hq, rfl, rfl, hqt⟩ := hrel
                have HQ := Lib.hid hqt
                clear hqt
                have hla := lastAt_lt O a q
                by_cases hlq : q < m + 1
                case pos =>
                  have u0 : decide ((q : Int) < ((m + 1 : Nat) : Int)) = true := by simp; omega
                  have u0' : decide ((q : Int) < (m : Int) + 1) = true := by simp; omega
                  have i2 : (q : Int) < (m : Int) + 1 := by omega
                  have hql : q < O.length := by rw [HM.out]; exact hlq
                  obtain ⟨b8, o8, he8, z8⟩ := int_at (HQ.out.sl HSO.out) q hql
                  cases he8
                  rw [Nat.zero_add] at z8
                  have z7' := (HQ.out.cell ⟨b7, o7 + k, none⟩).trans z7
                  have HLS := Lib.hid (show lastAt O a (q + 1) = if O[q]? = some a then (q : Int) else lastAt O a q from rfl)
                  rw [List.getElem?_eq_getElem hql] at HLS
                  generalize O[q] = oq at *
                  by_cases he : oq = a
                  · have u1 : (oq == a) = true := by simpa using he
                    have HLS := Lib.hid (HLS.out.trans (by rw [if_pos (by rw [he])]))
                    clear he z7
                    go_wp2
                    go_quiet (fail)
                    go_wp2
                    go_roundw
                    case rel => exact ⟨q + 1, by omega, by go_num, by rw [HLS.out], HQ.out.trans ⟨_, rfl⟩⟩
                    case measure => simp [intOf]; omega
                  · have u1 : (oq == a) = false := by simpa using he
                    have HLS := Lib.hid (HLS.out.trans (by rw [if_neg (fun h => he (Option.some.inj h))]))
                    clear he z7
                    go_wp2
                    go_quiet (fail)
                    go_wp2
                    go_roundw
                    case rel => exact ⟨q + 1, by omega, by go_num, by rw [HLS.out], HQ.out.trans ⟨_, rfl⟩⟩
                    case measure => simp [intOf]; omega
                case neg =>
                  have u0 : decide ((q : Int) < ((m + 1 : Nat) : Int)) = false := by simp; omega
                  have u0' : decide ((q : Int) < (m : Int) + 1) = false := by simp; omega
                  have hqe : q = O.length := by rw [HM.out]; omega
                  have hmem : a ∈ O := HPO.out.mem_iff.2 (by rw [HAK.out]; exact List.mem_cons_self)
                  obtain ⟨pp, hpp, hpv⟩ := lastAt_in O a q (by
                    obtain ⟨j, hj, he⟩ := List.mem_iff_getElem.1 hmem
                    exact ⟨j, by omega, by rw [List.getElem?_eq_getElem hj, he]⟩)
                  have hppl : pp < O.length := (List.getElem?_eq_some_iff.1 hpv).1
                  have HPV := Lib.hid hpv
                  rw [hpp]
                  have hpm : pp < m + 1 := by rw [← HM.out]; exact hppl
                  obtain ⟨hrow0, hsz, htk⟩ := HROW.out
                  have hrow : wr.heap[g]? = some (.cells cur 3 (0, 0)) := by rw [HQ.out.heap]; exact hrow0
                  have HSZC := Lib.hid hsz
                  have HTK := Lib.hid htk
                  have v0 : decide ((pp : Int) < 0) = false := by simp
                  have v1 : ((m : Int) + 1) - 1 = (m : Int) := by omega
                  have v2 : (((m + 1 : Nat)) : Int) - 1 = (m : Int) := by omega
                  have v3 : (pp : Int) < (m : Int) + 1 := by omega
                  obtain ⟨b8, o8, he8, z8⟩ := int_at (HQ.out.sl HSO.out) m (by rw [HM.out]; omega)
                  cases he8
                  rw [Nat.zero_add] at z8
                  have HOM := Lib.hid (show O[m]'(by rw [HM.out]; omega) = O.getD (O.length - 1) 0 by rw [show O.length - 1 = m by have := HM.out; omega, List.getD_eq_getElem?_getD, List.getElem?_eq_getElem (by rw [HM.out]; omega)]; rfl)
                  rw [HOM.out] at z8
                  have hcs : pp + 1 ≤ cur.size := by omega
                  clear hqe hmem hpp hpv hppl hrow0 hsz htk z7 hla u0 u0'
                  go_wp2_with ((with_reducible refine at_store_op ?_); refine wpList_store_lit 3 g pp (cur.toList.take pp ++ [Value.int .i64 (O.getD (O.length - 1) 0)] ++ cur.toList.drop (pp + 1)).toArray (.int .i64 (O.getD (O.length - 1) 0)) hrow sz3 hcs rfl rfl ?_ ?_ ?_; exact rfl; exact rfl; intro w5 hp5)
                  have HPOP := Lib.hid (own_pop hrow HGG.out.1 (by rw [HM.out]; exact hle) HCM.out HSZC.out (by rw [← Nat.mul_one O.length]; exact HTK.out) (by rw [HM.out]; exact hpm) hp5)
                  have HOO := Lib.hid (show Only (fun b => some b = g8) wa w5 from (HOB.out.trans (Only.of_below (S := fun _ => False) (HQ.out.below _)) (fun _ h => h.elim)).trans hp5.only (fun b hb => .inl (by rw [hb]; exact HGG.out.2)))
                  have HPP := Lib.hid (show (popAt O pp).Perm (A.drop (k + 1)) from by
                    have h1 := (popAt_perm O pp a HPV.out).symm.trans HPO.out
                    rw [HAK.out] at h1
                    exact h1.cons_inv)
                  have HPL := Lib.hid (show (popAt O pp).length = m by rw [popAt_length, HM.out]; rfl)
                  have hmle : m ≤ cap := by omega
                  have hm3 : m ≤ 3000 := by have := HM.out; omega
                  clear hp5 hrow
                  go_wp2
                  go_roundw
                  case rel => exact ⟨k + 1, _, popAt O pp, rfl, by omega, by go_num, HPP.out, by rw [HPL.out]; omega, fun _ => HGG.out.2, HOO.out, by have h := HPOP.out; rw [HM.out, Nat.add_sub_cancel] at h; rw [HPL.out]; exact h⟩
                  case measure => simp [intOf]; omega
            case neg =>
              have t0 : decide ((k : Int) < (A.length : Int)) = false := by simp; omega
              have hO : O = [] := by
                have := HPO.out.length_eq
                rw [List.length_drop] at this
                exact List.eq_nil_of_length_eq_zero (by omega)
              subst hO
              obtain ⟨a8, k8, hu8, _, _, _⟩ := owns_slice (show wb.ownsRow W1.heap.size 3 1 u 0 (vI []) from HRo.out)
              subst hu8
              have hge := HGE.out
              have K57 := Lib.hid (n01.cmp_any (w.heap.size + 1) (w.heap.size + 2) zH zH wb (IntP.only HIh.out HOB.out (fun e => by have := HGE.out _ e; have := HSZ.out; omega) (fun b hb e => hb e)).at' (IntP.only HI.out HOB.out (fun e => by have := HGE.out _ e; have := HSZ.out; omega) (fun b hb e => hb e)).at' HZB.out HZB.out)
              have HC0 := Lib.hid (show n01.cmpI zH zH = 0 by unfold n01.cmpI; rw [if_neg (by omega), if_neg (by omega)])
              rw [HC0.out] at K57
              clear hge
              go_wp2_with fail
              refine K57.out.mono ?_
              rintro r0 w5 ⟨rfl, hq⟩
              have HBE := Lib.hid (show Below w.heap.size w w5 from ((HB.out.trans (HO.out.below HB.out.size (fun b hb => by omega))).trans ((HOB.out.below (B := w.heap.size) (Nat.le_trans HB.out.size HO.out.size) (fun b hb => by have := HGE.out b hb; have := HSZ.out; omega)))).trans (hq.below _))
              clear hq K57
              go_wp2
              go_ret
              exact ⟨rfl, HBE.out⟩
end Go.Proofs.Ytpikmcapnmdmbaa
