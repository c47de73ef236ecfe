/-
  Layer 21: one bid among others: what it gets and what it pays.
-/
import Derived.Test.YtpejcndfplbikaaNb
namespace Go.Proofs.Ytpejcndfplbikaa
open Go.RowKit Go.K
set_option linter.unusedVariables false
set_option linter.unusedSimpArgs false
/-- An entry more, behind the others. -/
theorem push_step {W1 W2 W3 : World} {B g : Nat} {q : Con} {x : Ent} {a' : Option Addr} {c' : Nat} (k r s : Int) (l : List Ent) (hN : NewC B W1 q) (hg : W1.grownBy W2 (Value.slice q.ea q.es.length q.ec).ownBlock)
    (ho : W2.ownsRow B 33 5 (.slice a' (q.es.length + 1) c') (q.es.length + 1) (eFlat q.es ++ eFlat [x])) (hb : W2.heap[g]? = some (.cells #[.int .i64 q.num, .int .i64 q.kind, .int .i64 q.by', .int .i64 q.dl, .int .i64 q.to', .int .i64 q.want, .int .u64 q.price, .int .u64 q.reserve, .int .u64 q.step, .int .i64 q.of', .slice q.ea q.es.length q.ec] 25))
    (hp : Put W2 g (.cells #[.int .i64 q.num, .int .i64 q.kind, .int .i64 q.by', .int .i64 q.dl, .int .i64 q.to', .int .i64 q.want, .int .u64 q.price, .int .u64 q.reserve, .int .u64 q.step, .int .i64 q.of', .slice a' (q.es.length + 1) c'] 25) W3) (hx : ∀ W, NewE B W x) (hm : q.es.length + 1 ≤ 2513169434843) (hd : q.d = (kC k r s l).d) :
    ∃ q', Box W3 g q' ∧ NewC B W3 q' ∧ q'.d = (kC k r s (l ++ [x])).d := by
  refine ⟨⟨q.num, q.kind, q.by', q.dl, q.to', q.want, q.price, q.reserve, q.step, q.of', a', c', q.es ++ [x]⟩, ?_, ⟨?_, fun e he => ?_, ?_⟩, ?_⟩
  · unfold Box
    simp only [List.length_append, List.length_cons, List.length_nil]
    exact hp.at'
  · have h1 := ho.kept hp.grown (.inr (own_ne_box ho hb (by decide)))
    simp only [List.length_append, List.length_cons, List.length_nil, eFlat_append]
    exact h1
  · rcases List.mem_append.1 he with h | h
    · have h2 := (hN.ents e h).grown hN.row hg
      exact ⟨h2.row.kept hp.grown (.inr (own_ne_box h2.row hb (by decide))), h2.mx, h2.wf, h2.iw, h2.cw, h2.pw⟩
    · rw [List.mem_singleton] at h
      subst h
      exact hx _
  · simp only [List.length_append, List.length_cons, List.length_nil]
    exact hm
  · simp only [Con.d, Prod.mk.injEq] at hd
    obtain ⟨⟨h1, h2, h3, h4, h5⟩, ⟨h6, h7, h8, h9, h10⟩, h11⟩ := hd
    simp only [Con.d, h1, h2, h3, h4, h5, h6, h7, h8, h9, h10, List.map_append, h11]
    show (_, _, l.map Ent.d ++ [x].map Ent.d) = (_, _, (l ++ [x]).map Ent.d)
    rw [List.map_append]
    rfl
theorem len_d {q : Con} {k r s : Int} {l : List Ent} (h : q.d = (kC k r s l).d) : q.es.length = l.length := by
  have := congrArg List.length (con_eq h).2.2.2.2.2.2.2.2
  rw [List.length_map, List.length_map] at this
  exact this
def aE (b : Int) (l : List (BitVec 64)) : Nat → List Ent
  | 0 => []
  | k + 1 => aE b l k ++ [cE (b + k) (U64 (l.getD k 0))]
theorem aE_succ (b : Int) (l : List (BitVec 64)) (k : Nat) (h : k < l.length) : aE b l (k + 1) = aE b l k ++ [cE (b + k) (U64 l[k])] := by
  simp only [aE, List.getD_eq_getElem?_getD, List.getElem?_eq_getElem h, Option.getD_some]
theorem aE_len (b : Int) (l : List (BitVec 64)) (n : Nat) : (aE b l n).length = n := by
  induction n with
  | zero => rfl
  | succ n ih => simp [aE, ih]
def bidL (la : List (BitVec 64)) (m : Int) (lb : List (BitVec 64)) : List Ent := (([e7] ++ aE 2000 la la.length) ++ (if m > 0 then [cE 1000 m] else [])) ++ aE 3000 lb lb.length
theorem bidL_len (la : List (BitVec 64)) (m : Int) (lb : List (BitVec 64)) : (bidL la m lb).length ≤ la.length + lb.length + 2 := by
  unfold bidL
  split <;> simp [aE_len] <;> omega
/-- What the first gifts say to the account 1000. -/
def gW (l : List Gi) : Nat → Bool
  | 0 => false
  | k + 1 => if (l.getD k ⟨0, 0, 0⟩).to' = 1000 then gW l k || ((l.getD k ⟨0, 0, 0⟩).item == 7) else gW l k
def gB (l : List Gi) : Nat → Int
  | 0 => 0
  | k + 1 => if (l.getD k ⟨0, 0, 0⟩).to' = 1000 then IntKind.u64.wrap (gB l k + (l.getD k ⟨0, 0, 0⟩).coins) else gB l k
theorem wf_U64 (x : BitVec 64) : (Lit.int .u64 (U64 x)).wf = true := by
  have h1 := U64_lo x
  have h2 := U64_hi x
  simp [Lit.wf, IntKind.min, IntKind.max, IntKind.signed, IntKind.bits]
  omega
set_option maxRecDepth 100000 in
set_option maxHeartbeats 4000000 in
theorem bid_raw (r m : Int) (aa ba : Option Addr) (ac bc : Nat) (la lb : List (BitVec 64)) (w : World) (hA : QsOk w ⟨aa, ac, la⟩) (hB : QsOk w ⟨ba, bc, lb⟩) (hm : (Lit.int .u64 m).wf = true) (gs : List Gi) (hgs : endL 3 r ((bidL la m lb).map Ent.d) = gs) :
    Calls Try.prog 31 #[.int .u64 r, .slice aa la.length ac, .int .u64 m, .slice ba lb.length bc] w fun e w' => e = .returned (.tuple #[.bool (gW gs gs.length), .int .u64 (IntKind.u64.wrap (m - gB gs gs.length)), .bool (decide (gB gs gs.length ≤ m))]) ∧ Below w.heap.size w w' := by
  have HA := Lib.hid hA
  have HB := Lib.hid hB
  have HGS := Lib.hid hgs
  have HM := Lib.hid hm
  have HAM := Lib.hid (show la.length ≤ 1048576 from hA.mx)
  have HBM := Lib.hid (show lb.length ≤ 1048576 from hB.mx)
  have HGL := Lib.hid (show gs.length ≤ 10000000 by
    rw [← hgs]
    have h1 := endL_le 3 r ((bidL la m lb).map Ent.d)
    have h2 := bidL_len la m lb
    rw [List.length_map] at h1
    have h3 : la.length ≤ 1048576 := hA.mx; have h4 : lb.length ≤ 1048576 := hB.mx
    omega)
  clear hA hB hgs hm
  have hgl := HGL.out
  have ham : la.length ≤ 1048576 := HAM.out
  have hbm : lb.length ≤ 1048576 := HBM.out
  go_enter Try.func31, Try.ntmps31
  go_wp2_with fail
  refine (begun_q 3 r 0 w).mono ?_
  rintro r2 v1 ⟨q, rfl, hN, hD, hb⟩
  have NQ := Lib.hid (hN.kept ((Below.refl _ _).alloc (Nat.le_refl _) (.cells #[.int .i64 q.num, .int .i64 q.kind, .int .i64 q.by', .int .i64 q.dl, .int .i64 q.to', .int .i64 q.want, .int .u64 q.price, .int .u64 q.reserve, .int .u64 q.step, .int .i64 q.of', .slice q.ea q.es.length q.ec] 25)))
  have DQ := Lib.hid hD
  have HW := Lib.hid (hb.trans (((Below.refl _ _).alloc (Nat.le_refl _) (.cells #[.int .i64 q.num, .int .i64 q.kind, .int .i64 q.by', .int .i64 q.dl, .int .i64 q.to', .int .i64 q.want, .int .u64 q.price, .int .u64 q.reserve, .int .u64 q.step, .int .i64 q.of', .slice q.ea q.es.length q.ec] 25)).mono hb.size))
  have BQ := Lib.hid (show Box (v1.alloc (.cells #[.int .i64 q.num, .int .i64 q.kind, .int .i64 q.by', .int .i64 q.dl, .int .i64 q.to', .int .i64 q.want, .int .u64 q.price, .int .u64 q.reserve, .int .u64 q.step, .int .i64 q.of', .slice q.ea q.es.length q.ec] 25)) v1.heap.size q from alloc_at rfl)
  have HG := Lib.hid hb.size
  clear hN hD hb
  go_wp2
  go_loopw [12] (fun i wr => ∃ (k : Nat) (q : Con), k ≤ la.length ∧ i = .int .i64 k ∧ Below w.heap.size w wr ∧ Box wr v1.heap.size q ∧ NewC w.heap.size wr q ∧ q.d = (kC 3 r 0 ([e7] ++ aE 2000 la k)).d) (fun i _ => la.length - (intOf i).toNat)
  case atStart => exact ⟨0, q, by omega, rfl, HW.out, BQ.out, NQ.out, by rw [DQ.out]; rfl⟩
  case round =>
    clear NQ DQ HW BQ
    obtain ⟨k, q, hk, rfl, hb, hbx, hnc, hcd⟩ := hrel
    have HW := Lib.hid hb
    have BX := Lib.hid hbx
    have NC := Lib.hid hnc
    have CD := Lib.hid hcd
    clear hb hbx hnc hcd
    by_cases hlt : k < la.length
    case pos =>
      have t0 : decide ((k : Int) < (la.length : Int)) = true := by simp; omega
      have HLT := Lib.hid hlt
      have HLQ := Lib.hid (show q.es.length ≤ 1048577 by rw [len_d CD.out]; have := HAM.out; simp [aE_len]; omega)
      obtain ⟨xb, xo, hxa, y0⟩ := q_at (HA.out.kept HW.out).sl k hlt
      have hxa : aa = _ := hxa
      subst hxa
      have y0 : wr.cell? ⟨xb, xo + k, none⟩ = some (.int .u64 (U64 la[k])) := y0
      have i1 : (k : Int) < (la.length : Int) := by omega
      have cw : IntKind.i64.wrap (2000 + (k : Int)) = 2000 + k := by have := HAM.out; rw [IntKind.wrap_i64]; omega
      have B1 := Lib.hid (show q.es.length + 1 ≤ maxLen by have := HLQ.out; unfold maxLen; omega)
      have B2 := Lib.hid (show (q.es.length + 1) * 56 ≤ 140737488355328 by have := HLQ.out; omega)
      go_wp2
      have hdr : Below wr.heap.size wr wr.drew := (Qt.drewN wr 1).below _
      refine wp_region_front 9 11 (fun V => V.heap[v1.heap.size]? = some (.cells #[.int .i64 q.num, .int .i64 q.kind, .int .i64 q.by', .int .i64 q.dl, .int .i64 q.to', .int .i64 q.want, .int .u64 q.price, .int .u64 q.reserve, .int .u64 q.step, .int .i64 q.of', .slice q.ea q.es.length q.ec] 25) ∧ V.cell? ⟨xb, xo + k, none⟩ = some (.int .u64 (U64 la[k]))) (by kernel_rfl) (by kernel_rfl) ⟨BX.out.kept hdr, below_cell hdr y0⟩ ?_
      simp only [List.take_succ_cons, List.take_zero, List.drop_succ_cons, List.drop_zero]
      iterate 9
        apply wpPure_cons
        · rfl
        · intro Wx hw
          have k10 : Wx.cell? ⟨v1.heap.size, 10, none⟩ = some (.slice q.ea q.es.length q.ec) := by rw [cell_of_row _ _ _ _ _ _ hw.1]; rfl
          have kx := hw.2
          go_simp
          exact ⟨rfl, rfl⟩
        simp only [Act.put, List.setIfInBounds_toArray, List.set_cons_zero, List.set_cons_succ]
      refine wpPure_nil (wpLoud_cons (by rfl) ?_)
      go_simp
      have HA1 := Lib.hid (show Below wr.heap.size wr (wr.drew.alloc (.cells #[.int .i64 (2000 + k), .int .i64 0, .int .u64 (U64 la[k]), .int .u64 0, .slice none 0 0] 33)) from hdr.alloc (Nat.le_refl _) _)
      have NA := Lib.hid (NC.out.kept HA1.out)
      have BA := Lib.hid (BX.out.kept HA1.out)
      have B3 := Lib.hid (show w.heap.size ≤ (wr.drew.alloc (.cells #[.int .i64 (2000 + k), .int .i64 0, .int .u64 (U64 la[k]), .int .u64 0, .slice none 0 0] 33)).heap.size by have := HW.out.size; have := HA1.out.size; omega)
      refine ⟨⟨BA.out, below_cell HA1.out y0⟩, wpLoud_cons (by rfl) ?_⟩
      simp only [Act.put, List.setIfInBounds_toArray, List.set_cons_zero, List.set_cons_succ]
      refine loud_append _ _ 23 (by rfl) w.heap.size 33 (.agg #[.int .i64 0, .int .i64 0, .int .u64 0, .int .u64 0, .slice none 0 0]) 5 56 Try.underlying23 infoE (by rfl) (by decide) (.slice q.ea q.es.length q.ec) q.es.length (eFlat q.es) (by rfl) NA.out.row ⟨wr.heap.size, 0, none⟩ 1 1 (eFlat [cE (2000 + k) (U64 la[k])]) (by rfl) (by rfl) (sl_new _ _ _ _) (oneCell_eFlat _) B1.out B2.out B3.out ?_
      intro v2 w7 ho hg
      obtain ⟨a', c', rfl, _⟩ := owns_slice ho
      have HO := Lib.hid ho
      have HGR := Lib.hid hg
      have BX1 := Lib.hid (show w7.heap[v1.heap.size]? = some (.cells #[.int .i64 q.num, .int .i64 q.kind, .int .i64 q.by', .int .i64 q.dl, .int .i64 q.to', .int .i64 q.want, .int .u64 q.price, .int .u64 q.reserve, .int .u64 q.step, .int .i64 q.of', .slice q.ea q.es.length q.ec] 25) from row_past BA.out hg (fun e => own_ne_box NA.out.row BA.out (by decide) e.symm))
      have YC := below_cell HA1.out y0
      have HB1 := Lib.hid (show Below w.heap.size w w7 from (HW.out.trans (HA1.out.mono HW.out.size)).grown hg (HW.out.trans (HA1.out.mono HW.out.size)).size (fun k hk => (NA.out.row.lt k hk).1))
      refine ⟨⟨BX1.out, by obtain ⟨b', o', e', y'⟩ := q_at (HA.out.kept HB1.out).sl k HLT.out; cases e'; exact y'⟩, wpLoud_nil ?_⟩
      try simp only [Act.put, List.setIfInBounds_toArray, List.set_cons_zero, List.set_cons_succ]
      clear ho hg YC y0 B1 B2 B3
      go_wp2_with ((with_reducible refine at_store_op ?_); refine wpList_store_lit 23 v1.heap.size 10 #[.int .i64 q.num, .int .i64 q.kind, .int .i64 q.by', .int .i64 q.dl, .int .i64 q.to', .int .i64 q.want, .int .u64 q.price, .int .u64 q.reserve, .int .u64 q.step, .int .i64 q.of', .slice a' (q.es.length + 1) c'] (.slice a' (q.es.length + 1) c') BX1.out szEs (Nat.le_of_ble_eq_true rfl) rfl rfl ?_ ?_ ?_; exact rfl; exact rfl)
      intro w8 hp
      obtain ⟨q', hb', hn', hd'⟩ := push_step 3 r 0 _ NA.out HGR.out HO.out BX1.out hp (fun W => cE_new _ W (2000 + k) (U64 la[k]) (wf_U64 _)) (by have := HLQ.out; omega) CD.out
      have HB3 := Lib.hid (hp.below HB1.out HB1.out.size HG.out)
      have BX3 := Lib.hid hb'
      have NC3 := Lib.hid hn'
      have CD3 := Lib.hid hd'
      clear hp hb' hn' hd' HO HGR HB1 NA BA HA1 BX1
      go_wp2
      go_roundw
      case rel => exact ⟨k + 1, q', by omega, by go_num, HB3.out, BX3.out, NC3.out, by rw [CD3.out, aE_succ _ _ _ HLT.out, List.append_assoc]; rfl⟩
      case measure => simp [intOf]; omega
    case neg =>
      have t0 : decide ((k : Int) < (la.length : Int)) = false := by simp; omega
      have CDA := Lib.hid (show q.d = (kC 3 r 0 ([e7] ++ aE 2000 la la.length)).d by have h := CD.out; rw [show k = la.length by omega] at h; exact h)
      have HLQ := Lib.hid (show q.es.length ≤ 1048577 by rw [len_d CDA.out, List.length_append, aE_len]; have := HAM.out; simp; omega)
      have H2 := Lib.hid (show ∃ V, V = wr from ⟨_, rfl⟩)
      by_cases hm0 : m > 0
      case pos =>
        have c1 : decide (m > 0) = true := decide_eq_true hm0
        have HBL := Lib.hid (show bidL la m lb = (([e7] ++ aE 2000 la la.length) ++ [cE 1000 m]) ++ aE 3000 lb lb.length by unfold bidL; rw [if_pos hm0])
        obtain ⟨b0, b1, b2, b3, b4, b5, b6, b7, b8, b9, b10⟩ := BX.out.cells
        have bA := (BX.out.cellsA).2.2.2.2.2.2.2.2.2.2
        have HA1 := Lib.hid (show Below wr.heap.size wr (wr.alloc (.cells #[.int .i64 1000, .int .i64 0, .int .u64 m, .int .u64 0, .slice none 0 0] 33)) from (Below.refl _ _).alloc (Nat.le_refl _) _)
        have NA := Lib.hid (NC.out.kept HA1.out)
        have BA := Lib.hid (BX.out.kept HA1.out)
        have B1 := Lib.hid (show q.es.length + 1 ≤ maxLen by have := HLQ.out; unfold maxLen; omega)
        have B2 := Lib.hid (show (q.es.length + 1) * 56 ≤ 140737488355328 by have := HLQ.out; omega)
        have B3 := Lib.hid (show w.heap.size ≤ (wr.alloc (.cells #[.int .i64 1000, .int .i64 0, .int .u64 m, .int .u64 0, .slice none 0 0] 33)).heap.size by have := HW.out.size; simp; omega)
        go_wp2_with (at_builtin; refine wpList_append_sl rfl _ _ 23 rfl w.heap.size 33 (.agg #[.int .i64 0, .int .i64 0, .int .u64 0, .int .u64 0, .slice none 0 0]) 5 56 Try.underlying23 infoE rfl (by decide) (.slice q.ea q.es.length q.ec) q.es.length (eFlat q.es) rfl NA.out.row (some ⟨wr.heap.size, 0, none⟩) 1 1 (eFlat [cE 1000 m]) ?b6 (fun h => by cases h) ?b1 ?b7 (oneCell_eFlat _) B1.out B2.out B3.out ?b5)
        case b6 => rfl
        case b1 => rfl
        case b7 => exact sl_new _ _ _ _
        intro v' w1 ho hg
        obtain ⟨a', c', rfl, hn', hs', hle'⟩ := owns_slice ho
        have HO := Lib.hid ho
        have HGR := Lib.hid hg
        have BX1 := Lib.hid (show w1.heap[v1.heap.size]? = some (.cells #[.int .i64 q.num, .int .i64 q.kind, .int .i64 q.by', .int .i64 q.dl, .int .i64 q.to', .int .i64 q.want, .int .u64 q.price, .int .u64 q.reserve, .int .u64 q.step, .int .i64 q.of', .slice q.ea q.es.length q.ec] 25) from row_past BA.out hg (fun e => own_ne_box NA.out.row BA.out (by decide) e.symm))
        have HB1 := Lib.hid (show Below w.heap.size w w1 from (HW.out.trans (HA1.out.mono HW.out.size)).grown hg (HW.out.trans (HA1.out.mono HW.out.size)).size (fun k hk => (NA.out.row.lt k hk).1))
        clear ho hg hn' hs' hle' b0 b1 b2 b3 b4 b5 b6 b7 b8 b9 b10 bA B1 B2 B3
        go_wp2_with ((with_reducible refine at_store_op ?_); refine wpList_store_lit 23 v1.heap.size 10 #[.int .i64 q.num, .int .i64 q.kind, .int .i64 q.by', .int .i64 q.dl, .int .i64 q.to', .int .i64 q.want, .int .u64 q.price, .int .u64 q.reserve, .int .u64 q.step, .int .i64 q.of', .slice a' (q.es.length + 1) c'] (.slice a' (q.es.length + 1) c') BX1.out szEs (Nat.le_of_ble_eq_true rfl) rfl rfl ?_ ?_ ?_; exact rfl; exact rfl; intro w2 hp)
        obtain ⟨q', hb', hn', hd'⟩ := push_step 3 r 0 _ NA.out HGR.out HO.out BX1.out hp (fun W => cE_new _ W 1000 m HM.out) (by have := HLQ.out; omega) CDA.out
        have HW2 := Lib.hid (hp.below HB1.out HB1.out.size HG.out)
        have BX2 := Lib.hid hb'
        have NC2 := Lib.hid hn'
        have CD2 := Lib.hid hd'
        have HBL := Lib.hid (show bidL la m lb = (([e7] ++ aE 2000 la la.length) ++ [cE 1000 m]) ++ aE 3000 lb lb.length from HBL.out)
        have HLM := Lib.hid (show (([e7] ++ aE 2000 la la.length) ++ [cE 1000 m]).length ≤ 1048578 by have := HAM.out; simp [aE_len]; omega)
        clear hp hb' hn' hd' HO HGR HB1 NA BA HA1 BX1 HLQ CDA CD BX NC HW H2
        generalize (([e7] ++ aE 2000 la la.length) ++ [cE 1000 m]) = L1 at *
        go_loopw [13] (fun i wr2 => ∃ (k : Nat) (q : Con), k ≤ lb.length ∧ i = .int .i64 k ∧ Below w.heap.size w wr2 ∧ Box wr2 v1.heap.size q ∧ NewC w.heap.size wr2 q ∧ q.d = (kC 3 r 0 (L1 ++ aE 3000 lb k)).d) (fun i _ => lb.length - (intOf i).toNat)
        case atStart => exact ⟨0, q', by omega, rfl, HW2.out, BX2.out, NC2.out, by rw [CD2.out]; simp [aE]⟩
        case round =>
          clear HW2 BX2 NC2 CD2
          obtain ⟨k, q, hk, rfl, hb, hbx, hnc, hcd⟩ := hrel
          have HW := Lib.hid hb
          have BX := Lib.hid hbx
          have NC := Lib.hid hnc
          have CD := Lib.hid hcd
          clear hb hbx hnc hcd
          by_cases hlt : k < lb.length
          case pos =>
            have t0 : decide ((k : Int) < (lb.length : Int)) = true := by simp; omega
            have HLT := Lib.hid hlt
            have HLQ := Lib.hid (show q.es.length ≤ 2097154 by rw [len_d CD.out]; have := HLM.out; have := HBM.out; simp [aE_len]; omega)
            obtain ⟨xb, xo, hxa, y0⟩ := q_at (HB.out.kept HW.out).sl k hlt
            have hxa : ba = _ := hxa
            subst hxa
            have y0 : wr.cell? ⟨xb, xo + k, none⟩ = some (.int .u64 (U64 lb[k])) := y0
            have i1 : (k : Int) < (lb.length : Int) := by omega
            have cw : IntKind.i64.wrap (3000 + (k : Int)) = 3000 + k := by have := HBM.out; rw [IntKind.wrap_i64]; omega
            have B1 := Lib.hid (show q.es.length + 1 ≤ maxLen by have := HLQ.out; unfold maxLen; omega)
            have B2 := Lib.hid (show (q.es.length + 1) * 56 ≤ 140737488355328 by have := HLQ.out; omega)
            go_wp2
            have hdr : Below wr.heap.size wr wr.drew := (Qt.drewN wr 1).below _
            refine wp_region_front 9 11 (fun V => V.heap[v1.heap.size]? = some (.cells #[.int .i64 q.num, .int .i64 q.kind, .int .i64 q.by', .int .i64 q.dl, .int .i64 q.to', .int .i64 q.want, .int .u64 q.price, .int .u64 q.reserve, .int .u64 q.step, .int .i64 q.of', .slice q.ea q.es.length q.ec] 25) ∧ V.cell? ⟨xb, xo + k, none⟩ = some (.int .u64 (U64 lb[k]))) (by kernel_rfl) (by kernel_rfl) ⟨BX.out.kept hdr, below_cell hdr y0⟩ ?_
            simp only [List.take_succ_cons, List.take_zero, List.drop_succ_cons, List.drop_zero]
            iterate 9
              apply wpPure_cons
              · rfl
              · intro Wx hw
                have k10 : Wx.cell? ⟨v1.heap.size, 10, none⟩ = some (.slice q.ea q.es.length q.ec) := by rw [cell_of_row _ _ _ _ _ _ hw.1]; rfl
                have kx := hw.2
                go_simp
                exact ⟨rfl, rfl⟩
              simp only [Act.put, List.setIfInBounds_toArray, List.set_cons_zero, List.set_cons_succ]
            refine wpPure_nil (wpLoud_cons (by rfl) ?_)
            go_simp
            have HA1 := Lib.hid (show Below wr.heap.size wr (wr.drew.alloc (.cells #[.int .i64 (3000 + k), .int .i64 0, .int .u64 (U64 lb[k]), .int .u64 0, .slice none 0 0] 33)) from hdr.alloc (Nat.le_refl _) _)
            have NA := Lib.hid (NC.out.kept HA1.out)
            have BA := Lib.hid (BX.out.kept HA1.out)
            have B3 := Lib.hid (show w.heap.size ≤ (wr.drew.alloc (.cells #[.int .i64 (3000 + k), .int .i64 0, .int .u64 (U64 lb[k]), .int .u64 0, .slice none 0 0] 33)).heap.size by have := HW.out.size; have := HA1.out.size; omega)
            refine ⟨⟨BA.out, below_cell HA1.out y0⟩, wpLoud_cons (by rfl) ?_⟩
            simp only [Act.put, List.setIfInBounds_toArray, List.set_cons_zero, List.set_cons_succ]
            refine loud_append _ _ 23 (by rfl) w.heap.size 33 (.agg #[.int .i64 0, .int .i64 0, .int .u64 0, .int .u64 0, .slice none 0 0]) 5 56 Try.underlying23 infoE (by rfl) (by decide) (.slice q.ea q.es.length q.ec) q.es.length (eFlat q.es) (by rfl) NA.out.row ⟨wr.heap.size, 0, none⟩ 1 1 (eFlat [cE (3000 + k) (U64 lb[k])]) (by rfl) (by rfl) (sl_new _ _ _ _) (oneCell_eFlat _) B1.out B2.out B3.out ?_
            intro v2 w7 ho hg
            obtain ⟨a', c', rfl, _⟩ := owns_slice ho
            have HO := Lib.hid ho
            have HGR := Lib.hid hg
            have BX1 := Lib.hid (show w7.heap[v1.heap.size]? = some (.cells #[.int .i64 q.num, .int .i64 q.kind, .int .i64 q.by', .int .i64 q.dl, .int .i64 q.to', .int .i64 q.want, .int .u64 q.price, .int .u64 q.reserve, .int .u64 q.step, .int .i64 q.of', .slice q.ea q.es.length q.ec] 25) from row_past BA.out hg (fun e => own_ne_box NA.out.row BA.out (by decide) e.symm))
            have YC := below_cell HA1.out y0
            have HB1 := Lib.hid (show Below w.heap.size w w7 from (HW.out.trans (HA1.out.mono HW.out.size)).grown hg (HW.out.trans (HA1.out.mono HW.out.size)).size (fun k hk => (NA.out.row.lt k hk).1))
            refine ⟨⟨BX1.out, by obtain ⟨b', o', e', y'⟩ := q_at (HB.out.kept HB1.out).sl k HLT.out; cases e'; exact y'⟩, wpLoud_nil ?_⟩
            try simp only [Act.put, List.setIfInBounds_toArray, List.set_cons_zero, List.set_cons_succ]
            clear ho hg YC y0 B1 B2 B3
            go_wp2_with ((with_reducible refine at_store_op ?_); refine wpList_store_lit 23 v1.heap.size 10 #[.int .i64 q.num, .int .i64 q.kind, .int .i64 q.by', .int .i64 q.dl, .int .i64 q.to', .int .i64 q.want, .int .u64 q.price, .int .u64 q.reserve, .int .u64 q.step, .int .i64 q.of', .slice a' (q.es.length + 1) c'] (.slice a' (q.es.length + 1) c') BX1.out szEs (Nat.le_of_ble_eq_true rfl) rfl rfl ?_ ?_ ?_; exact rfl; exact rfl)
            intro w8 hp
            obtain ⟨q', hb', hn', hd'⟩ := push_step 3 r 0 _ NA.out HGR.out HO.out BX1.out hp (fun W => cE_new _ W (3000 + k) (U64 lb[k]) (wf_U64 _)) (by have := HLQ.out; omega) CD.out
            have HB3 := Lib.hid (hp.below HB1.out HB1.out.size HG.out)
            have BX3 := Lib.hid hb'
            have NC3 := Lib.hid hn'
            have CD3 := Lib.hid hd'
            clear hp hb' hn' hd' HO HGR HB1 NA BA HA1 BX1
            go_wp2
            go_roundw
            case rel => exact ⟨k + 1, q', by omega, by go_num, HB3.out, BX3.out, NC3.out, by rw [CD3.out, aE_succ _ _ _ HLT.out, List.append_assoc]; rfl⟩
            case measure => simp [intOf]; omega
          case neg =>
            have t0 : decide ((k : Int) < (lb.length : Int)) = false := by simp; omega
            have CDB := Lib.hid (show q.d = (kC 3 r 0 (bidL la m lb)).d by have h := CD.out; rw [show k = lb.length by omega] at h; rw [h, HBL.out])
            obtain ⟨b0, b1, b2, b3, b4, b5, b6, b7, b8, b9, b10⟩ := BX.out.cells
            go_wp2_with fail
            clear b0 b1 b2 b3 b4 b5 b6 b7 b8 b9 b10
            refine (end_k q (kC 3 r 0 (bidL la m lb)) wr NC.out.ok CDB.out HGS.out).mono ?_
            rintro r9 w3 ⟨ad, cp, rfl, hs, hb⟩
            have HS := Lib.hid hs
            have HF := Lib.hid (HW.out.trans (hb.mono HW.out.size))
            clear hs hb HW BX NC CD CDB
            go_wp2
            go_loopw [15, 16, 17] (fun x15 x16 i wq => ∃ j : Nat, j ≤ gs.length ∧ i = .int .i64 j ∧ x15 = .bool (gW gs j) ∧ x16 = .int .u64 (gB gs j) ∧ Qt w3 wq) (fun _ _ i _ => gs.length - (intOf i).toNat)
            case atStart => exact ⟨0, by omega, rfl, rfl, rfl, Qt.refl _⟩
            case round =>
              obtain ⟨j, hj, rfl, rfl, rfl, hq⟩ := hrel
              have HQ := Lib.hid hq
              clear hq
              by_cases hlj : j < gs.length
              case pos =>
                have t1 : decide ((j : Int) < (gs.length : Int)) = true := by simp; omega
                obtain ⟨ob, oo, hae, y0, y1, y2⟩ := gift_at (HQ.out.sl HS.out) j hlj
                have j1 : (j : Int) < (gs.length : Int) := by omega
                have HWE := Lib.hid (show gW gs (j + 1) = if (gs[j]).to' = 1000 then gW gs j || ((gs[j]).item == 7) else gW gs j by simp only [gW, List.getD_eq_getElem?_getD, List.getElem?_eq_getElem hlj, Option.getD_some])
                have HBE := Lib.hid (show gB gs (j + 1) = if (gs[j]).to' = 1000 then IntKind.u64.wrap (gB gs j + (gs[j]).coins) else gB gs j by simp only [gB, List.getD_eq_getElem?_getD, List.getElem?_eq_getElem hlj, Option.getD_some])
                generalize gs[j] = gi at *
                obtain ⟨gt, gm, gc⟩ := gi
                simp only at y0 y1 y2 HWE HBE
                subst hae
                by_cases h1 : gt = 1000
                · have HWE := Lib.hid (HWE.out.trans (if_pos h1))
                  have HBE := Lib.hid (HBE.out.trans (if_pos h1))
                  have c5 : (gt == 1000) = true := by simpa using h1
                  clear h1
                  generalize hwj : gW gs j = wj at *
                  have HWJ := Lib.hid hwj
                  clear hwj
                  cases wj
                  · go_wp2
                    go_roundw
                    case rel => exact ⟨j + 1, by omega, by go_num, by rw [HWE.out]; rfl, by rw [HBE.out], HQ.out⟩
                    case measure => simp [intOf]; omega
                  · go_wp2
                    go_roundw
                    case rel => exact ⟨j + 1, by omega, by go_num, by rw [HWE.out]; rfl, by rw [HBE.out], HQ.out⟩
                    case measure => simp [intOf]; omega
                · have HWE := Lib.hid (HWE.out.trans (if_neg h1))
                  have HBE := Lib.hid (HBE.out.trans (if_neg h1))
                  have c5 : (gt == 1000) = false := by simpa using h1
                  clear h1
                  go_wp2
                  go_roundw
                  case rel => exact ⟨j + 1, by omega, by go_num, by rw [HWE.out], by rw [HBE.out], HQ.out⟩
                  case measure => simp [intOf]; omega
              case neg =>
                have t1 : decide ((j : Int) < (gs.length : Int)) = false := by simp; omega
                have HJ := Lib.hid (show j = gs.length by omega)
                go_wp2
                go_ret3
                rw [HJ.out]
                exact ⟨rfl, HF.out.trans ((HQ.out.below _).mono HF.out.size)⟩
      case neg =>
        have c1 : decide (m > 0) = false := decide_eq_false hm0
        have HBL := Lib.hid (show bidL la m lb = ([e7] ++ aE 2000 la la.length) ++ aE 3000 lb lb.length by unfold bidL; rw [if_neg hm0, List.append_nil])
        have HLM := Lib.hid (show ([e7] ++ aE 2000 la la.length).length ≤ 1048578 by have := HAM.out; simp [aE_len]; omega)
        have HW2 := HW
        have BX2 := BX
        have NC2 := NC
        have CD2 := CDA
        clear HLQ CDA CD BX NC HW H2
        go_wp2
        generalize ([e7] ++ aE 2000 la la.length) = L1 at *
        go_loopw [13] (fun i wr2 => ∃ (k : Nat) (q : Con), k ≤ lb.length ∧ i = .int .i64 k ∧ Below w.heap.size w wr2 ∧ Box wr2 v1.heap.size q ∧ NewC w.heap.size wr2 q ∧ q.d = (kC 3 r 0 (L1 ++ aE 3000 lb k)).d) (fun i _ => lb.length - (intOf i).toNat)
        case atStart => exact ⟨0, q, by omega, rfl, HW2.out, BX2.out, NC2.out, by rw [CD2.out]; simp [aE]⟩
        case round =>
          clear HW2 BX2 NC2 CD2
          obtain ⟨k, q, hk, rfl, hb, hbx, hnc, hcd⟩ := hrel
          have HW := Lib.hid hb
          have BX := Lib.hid hbx
          have NC := Lib.hid hnc
          have CD := Lib.hid hcd
          clear hb hbx hnc hcd
          by_cases hlt : k < lb.length
          case pos =>
            have t0 : decide ((k : Int) < (lb.length : Int)) = true := by simp; omega
            have HLT := Lib.hid hlt
            have HLQ := Lib.hid (show q.es.length ≤ 2097154 by rw [len_d CD.out]; have := HLM.out; have := HBM.out; simp [aE_len]; omega)
            obtain ⟨xb, xo, hxa, y0⟩ := q_at (HB.out.kept HW.out).sl k hlt
            have hxa : ba = _ := hxa
            subst hxa
            have y0 : wr.cell? ⟨xb, xo + k, none⟩ = some (.int .u64 (U64 lb[k])) := y0
            have i1 : (k : Int) < (lb.length : Int) := by omega
            have cw : IntKind.i64.wrap (3000 + (k : Int)) = 3000 + k := by have := HBM.out; rw [IntKind.wrap_i64]; omega
            have B1 := Lib.hid (show q.es.length + 1 ≤ maxLen by have := HLQ.out; unfold maxLen; omega)
            have B2 := Lib.hid (show (q.es.length + 1) * 56 ≤ 140737488355328 by have := HLQ.out; omega)
            go_wp2
            have hdr : Below wr.heap.size wr wr.drew := (Qt.drewN wr 1).below _
            refine wp_region_front 9 11 (fun V => V.heap[v1.heap.size]? = some (.cells #[.int .i64 q.num, .int .i64 q.kind, .int .i64 q.by', .int .i64 q.dl, .int .i64 q.to', .int .i64 q.want, .int .u64 q.price, .int .u64 q.reserve, .int .u64 q.step, .int .i64 q.of', .slice q.ea q.es.length q.ec] 25) ∧ V.cell? ⟨xb, xo + k, none⟩ = some (.int .u64 (U64 lb[k]))) (by kernel_rfl) (by kernel_rfl) ⟨BX.out.kept hdr, below_cell hdr y0⟩ ?_
            simp only [List.take_succ_cons, List.take_zero, List.drop_succ_cons, List.drop_zero]
            iterate 9
              apply wpPure_cons
              · rfl
              · intro Wx hw
                have k10 : Wx.cell? ⟨v1.heap.size, 10, none⟩ = some (.slice q.ea q.es.length q.ec) := by rw [cell_of_row _ _ _ _ _ _ hw.1]; rfl
                have kx := hw.2
                go_simp
                exact ⟨rfl, rfl⟩
              simp only [Act.put, List.setIfInBounds_toArray, List.set_cons_zero, List.set_cons_succ]
            refine wpPure_nil (wpLoud_cons (by rfl) ?_)
            go_simp
            have HA1 := Lib.hid (show Below wr.heap.size wr (wr.drew.alloc (.cells #[.int .i64 (3000 + k), .int .i64 0, .int .u64 (U64 lb[k]), .int .u64 0, .slice none 0 0] 33)) from hdr.alloc (Nat.le_refl _) _)
            have NA := Lib.hid (NC.out.kept HA1.out)
            have BA := Lib.hid (BX.out.kept HA1.out)
            have B3 := Lib.hid (show w.heap.size ≤ (wr.drew.alloc (.cells #[.int .i64 (3000 + k), .int .i64 0, .int .u64 (U64 lb[k]), .int .u64 0, .slice none 0 0] 33)).heap.size by have := HW.out.size; have := HA1.out.size; omega)
            refine ⟨⟨BA.out, below_cell HA1.out y0⟩, wpLoud_cons (by rfl) ?_⟩
            simp only [Act.put, List.setIfInBounds_toArray, List.set_cons_zero, List.set_cons_succ]
            refine loud_append _ _ 23 (by rfl) w.heap.size 33 (.agg #[.int .i64 0, .int .i64 0, .int .u64 0, .int .u64 0, .slice none 0 0]) 5 56 Try.underlying23 infoE (by rfl) (by decide) (.slice q.ea q.es.length q.ec) q.es.length (eFlat q.es) (by rfl) NA.out.row ⟨wr.heap.size, 0, none⟩ 1 1 (eFlat [cE (3000 + k) (U64 lb[k])]) (by rfl) (by rfl) (sl_new _ _ _ _) (oneCell_eFlat _) B1.out B2.out B3.out ?_
            intro v2 w7 ho hg
            obtain ⟨a', c', rfl, _⟩ := owns_slice ho
            have HO := Lib.hid ho
            have HGR := Lib.hid hg
            have BX1 := Lib.hid (show w7.heap[v1.heap.size]? = some (.cells #[.int .i64 q.num, .int .i64 q.kind, .int .i64 q.by', .int .i64 q.dl, .int .i64 q.to', .int .i64 q.want, .int .u64 q.price, .int .u64 q.reserve, .int .u64 q.step, .int .i64 q.of', .slice q.ea q.es.length q.ec] 25) from row_past BA.out hg (fun e => own_ne_box NA.out.row BA.out (by decide) e.symm))
            have YC := below_cell HA1.out y0
            have HB1 := Lib.hid (show Below w.heap.size w w7 from (HW.out.trans (HA1.out.mono HW.out.size)).grown hg (HW.out.trans (HA1.out.mono HW.out.size)).size (fun k hk => (NA.out.row.lt k hk).1))
            refine ⟨⟨BX1.out, by obtain ⟨b', o', e', y'⟩ := q_at (HB.out.kept HB1.out).sl k HLT.out; cases e'; exact y'⟩, wpLoud_nil ?_⟩
            try simp only [Act.put, List.setIfInBounds_toArray, List.set_cons_zero, List.set_cons_succ]
            clear ho hg YC y0 B1 B2 B3
            go_wp2_with ((with_reducible refine at_store_op ?_); refine wpList_store_lit 23 v1.heap.size 10 #[.int .i64 q.num, .int .i64 q.kind, .int .i64 q.by', .int .i64 q.dl, .int .i64 q.to', .int .i64 q.want, .int .u64 q.price, .int .u64 q.reserve, .int .u64 q.step, .int .i64 q.of', .slice a' (q.es.length + 1) c'] (.slice a' (q.es.length + 1) c') BX1.out szEs (Nat.le_of_ble_eq_true rfl) rfl rfl ?_ ?_ ?_; exact rfl; exact rfl)
            intro w8 hp
            obtain ⟨q', hb', hn', hd'⟩ := push_step 3 r 0 _ NA.out HGR.out HO.out BX1.out hp (fun W => cE_new _ W (3000 + k) (U64 lb[k]) (wf_U64 _)) (by have := HLQ.out; omega) CD.out
            have HB3 := Lib.hid (hp.below HB1.out HB1.out.size HG.out)
            have BX3 := Lib.hid hb'
            have NC3 := Lib.hid hn'
            have CD3 := Lib.hid hd'
            clear hp hb' hn' hd' HO HGR HB1 NA BA HA1 BX1
            go_wp2
            go_roundw
            case rel => exact ⟨k + 1, q', by omega, by go_num, HB3.out, BX3.out, NC3.out, by rw [CD3.out, aE_succ _ _ _ HLT.out, List.append_assoc]; rfl⟩
            case measure => simp [intOf]; omega
          case neg =>
            have t0 : decide ((k : Int) < (lb.length : Int)) = false := by simp; omega
            have CDB := Lib.hid (show q.d = (kC 3 r 0 (bidL la m lb)).d by have h := CD.out; rw [show k = lb.length by omega] at h; rw [h, HBL.out])
            obtain ⟨b0, b1, b2, b3, b4, b5, b6, b7, b8, b9, b10⟩ := BX.out.cells
            go_wp2_with fail
            clear b0 b1 b2 b3 b4 b5 b6 b7 b8 b9 b10
            refine (end_k q (kC 3 r 0 (bidL la m lb)) wr NC.out.ok CDB.out HGS.out).mono ?_
            rintro r9 w3 ⟨ad, cp, rfl, hs, hb⟩
            have HS := Lib.hid hs
            have HF := Lib.hid (HW.out.trans (hb.mono HW.out.size))
            clear hs hb HW BX NC CD CDB
            go_wp2
            go_loopw [15, 16, 17] (fun x15 x16 i wq => ∃ j : Nat, j ≤ gs.length ∧ i = .int .i64 j ∧ x15 = .bool (gW gs j) ∧ x16 = .int .u64 (gB gs j) ∧ Qt w3 wq) (fun _ _ i _ => gs.length - (intOf i).toNat)
            case atStart => exact ⟨0, by omega, rfl, rfl, rfl, Qt.refl _⟩
            case round =>
              obtain ⟨j, hj, rfl, rfl, rfl, hq⟩ := hrel
              have HQ := Lib.hid hq
              clear hq
              by_cases hlj : j < gs.length
              case pos =>
                have t1 : decide ((j : Int) < (gs.length : Int)) = true := by simp; omega
                obtain ⟨ob, oo, hae, y0, y1, y2⟩ := gift_at (HQ.out.sl HS.out) j hlj
                have j1 : (j : Int) < (gs.length : Int) := by omega
                have HWE := Lib.hid (show gW gs (j + 1) = if (gs[j]).to' = 1000 then gW gs j || ((gs[j]).item == 7) else gW gs j by simp only [gW, List.getD_eq_getElem?_getD, List.getElem?_eq_getElem hlj, Option.getD_some])
                have HBE := Lib.hid (show gB gs (j + 1) = if (gs[j]).to' = 1000 then IntKind.u64.wrap (gB gs j + (gs[j]).coins) else gB gs j by simp only [gB, List.getD_eq_getElem?_getD, List.getElem?_eq_getElem hlj, Option.getD_some])
                generalize gs[j] = gi at *
                obtain ⟨gt, gm, gc⟩ := gi
                simp only at y0 y1 y2 HWE HBE
                subst hae
                by_cases h1 : gt = 1000
                · have HWE := Lib.hid (HWE.out.trans (if_pos h1))
                  have HBE := Lib.hid (HBE.out.trans (if_pos h1))
                  have c5 : (gt == 1000) = true := by simpa using h1
                  clear h1
                  generalize hwj : gW gs j = wj at *
                  have HWJ := Lib.hid hwj
                  clear hwj
                  cases wj
                  · go_wp2
                    go_roundw
                    case rel => exact ⟨j + 1, by omega, by go_num, by rw [HWE.out]; rfl, by rw [HBE.out], HQ.out⟩
                    case measure => simp [intOf]; omega
                  · go_wp2
                    go_roundw
                    case rel => exact ⟨j + 1, by omega, by go_num, by rw [HWE.out]; rfl, by rw [HBE.out], HQ.out⟩
                    case measure => simp [intOf]; omega
                · have HWE := Lib.hid (HWE.out.trans (if_neg h1))
                  have HBE := Lib.hid (HBE.out.trans (if_neg h1))
                  have c5 : (gt == 1000) = false := by simpa using h1
                  clear h1
                  go_wp2
                  go_roundw
                  case rel => exact ⟨j + 1, by omega, by go_num, by rw [HWE.out], by rw [HBE.out], HQ.out⟩
                  case measure => simp [intOf]; omega
              case neg =>
                have t1 : decide ((j : Int) < (gs.length : Int)) = false := by simp; omega
                have HJ := Lib.hid (show j = gs.length by omega)
                go_wp2
                go_ret3
                rw [HJ.out]
                exact ⟨rfl, HF.out.trans ((HQ.out.below _).mono HF.out.size)⟩
theorem bid_any (r m : Int) (A B : Qs) (w : World) (hA : QsOk w A) (hB : QsOk w B) (hm : (Lit.int .u64 m).wf = true) (gs : List Gi) (hgs : endL 3 r ((bidL A.l m B.l).map Ent.d) = gs) :
    Calls Try.prog 31 #[.int .u64 r, A.v, .int .u64 m, B.v] w fun e w' => e = .returned (.tuple #[.bool (gW gs gs.length), .int .u64 (IntKind.u64.wrap (m - gB gs gs.length)), .bool (decide (gB gs gs.length ≤ m))]) ∧ Below w.heap.size w w' :=
  bid_raw r m A.a B.a A.c B.c A.l B.l w hA hB hm gs hgs
end Go.Proofs.Ytpejcndfplbikaa
