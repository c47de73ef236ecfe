/-
  Layer 21: sums of coins of more than 64 bits; maps that count.
-/
import Derived.Test.YtpejcndfplbikaaMd
import Derived.Test.YtpejcndfplbikaaMg
import Derived.Maps.RangeWalk
import Derived.Maps.Ext
import Derived.Maps.OwnOps
namespace Go.Proofs.Ytpejcndfplbikaa
open Go.RowKit Go.K Go.Maps
set_option linter.unusedVariables false
set_option linter.unusedSimpArgs false
/-- A sum of more than 64 bits: its upper and its lower word. -/
def cH (S : Int) : Int := (S / 18446744073709551616) % 18446744073709551616
def cL (S : Int) : Int := S % 18446744073709551616
theorem cH_lo (S : Int) : 0 ≤ cH S ∧ cH S < 18446744073709551616 := by unfold cH; omega
theorem cL_lo (S : Int) : 0 ≤ cL S ∧ cL S < 18446744073709551616 := by unfold cL; omega
theorem cL_add (S n : Int) : IntKind.u64.wrap (cL S + n) = cL (S + n) := by rw [IntKind.wrap_u64]; unfold cL; omega
theorem cH_carry (S n : Int) (h0 : 0 ≤ n) (h1 : n < 18446744073709551616) (h : cL (S + n) < n) : IntKind.u64.wrap (cH S + 1) = cH (S + n) := by
  rw [IntKind.wrap_u64]; unfold cH cL at *; omega
theorem cH_same (S n : Int) (h0 : 0 ≤ n) (h1 : n < 18446744073709551616) (h : ¬ cL (S + n) < n) : cH S = cH (S + n) := by
  unfold cH cL at *; omega
theorem u64_range {n : Int} (h : (Lit.int .u64 n).wf = true) : 0 ≤ n ∧ n < 18446744073709551616 := by
  obtain ⟨z, hz⟩ := u64_of_wf h
  have h1 := U64_lo z
  have h2 := U64_hi z
  omega
theorem put_next {w w1 w2 : World} {g : Nat} {o1 o2 : Obj} (h : Put w g o1 w1) (h2 : Put w1 g o2 w2) : Put w g o2 w2 := ⟨h2.at', h2.size.trans h.size, h.grown.trans h2.grown⟩
theorem szU' : (Try.prog.info? 22).map (·.size) = some 1 := by kernel_rfl
set_option maxRecDepth 100000 in
/-- wide.add through a pointer into sums. -/
theorem wadd_any (g : Nat) (m : Value) (S n : Int) (w : World) (hr : w.heap[g]? = some (.cells #[m, .int .u64 (cH S), .int .u64 (cL S)] 52)) (hn : (Lit.int .u64 n).wf = true) :
    Calls Try.prog 50 #[.pointer (some ⟨g, 1, none⟩), .int .u64 n] w fun e w' => e = .returned (.tuple #[]) ∧ Put w g (.cells #[m, .int .u64 (cH (S + n)), .int .u64 (cL (S + n))] 52) w' := by
  have HR := Lib.hid hr
  obtain ⟨h0, h1⟩ := u64_range hn
  obtain ⟨a0, a1, a2⟩ := cells3 hr
  have e1 := cL_add S n
  clear hr
  go_enter Try.func50, Try.ntmps50
  by_cases hc : cL (S + n) < n
  · have c0 : decide (cL (S + n) < n) = true := decide_eq_true hc
    have e2 := cH_carry S n h0 h1 hc
    go_wp2_with (first
      | ((with_reducible refine at_store_op ?_); refine wpList_store_lit 22 g 2 #[m, .int .u64 (cH S), .int .u64 (cL (S + n))] (.int .u64 (cL (S + n))) HR.out szU' (Nat.le_of_ble_eq_true rfl) rfl rfl ?_ ?_ ?_; exact rfl; exact rfl; intro w1 hp1; obtain ⟨b0, b1, b2⟩ := cells3 hp1.at')
      | ((with_reducible refine at_store_op ?_); refine wpList_store_lit 22 g 1 #[m, .int .u64 (cH (S + n)), .int .u64 (cL (S + n))] (.int .u64 (cH (S + n))) hp1.at' szU' (Nat.le_of_ble_eq_true rfl) rfl rfl ?_ ?_ ?_; exact rfl; exact rfl; intro w2 hp2))
    exact bodyPost_end (results_none Try.results50 _ _ _) rfl ⟨rfl, put_next hp1 hp2⟩
  · have c0 : decide (cL (S + n) < n) = false := decide_eq_false hc
    have e2 := cH_same S n h0 h1 hc
    have E2 := Lib.hid e2
    clear e2
    go_wp2_with ((with_reducible refine at_store_op ?_); refine wpList_store_lit 22 g 2 #[m, .int .u64 (cH S), .int .u64 (cL (S + n))] (.int .u64 (cL (S + n))) HR.out szU' (Nat.le_of_ble_eq_true rfl) rfl rfl ?_ ?_ ?_; exact rfl; exact rfl; intro w1 hp1; obtain ⟨b0, b1, b2⟩ := cells3 hp1.at')
    rw [E2.out] at hp1
    exact bodyPost_end (results_none Try.results50 _ _ _) rfl ⟨rfl, hp1⟩
/-- A map that counts what stands in a list. -/
structure CntD (L : List Int) (D : DataW Unit) : Prop where
  has : ∀ k : Lit, Maps.has D k = true ↔ ∃ x ∈ L, k = .int .i64 x
  at' : ∀ x : Int, D.atKey (.int .i64 x) (.lit (.int .i64 0)) = .lit (.int .i64 (L.count x : Nat))
theorem cnt_start : CntD [] (.map []) := ⟨fun k => by simp [Maps.has], fun x => by simp; rfl⟩
theorem cnt_step {L : List Int} {D : DataW Unit} (h : CntD L D) (hm : IsMap D) (x : Int) : CntD (L ++ [x]) (D.put (.int .i64 x) (.lit (.int .i64 ((L.count x : Nat) + 1)))) := by
  constructor
  · intro k
    by_cases e : k = .int .i64 x
    · subst e
      rw [has_put_same hm (by trivial)]
      exact ⟨fun _ => ⟨x, by simp, rfl⟩, fun _ => rfl⟩
    · rw [has_put_other e, h.has]
      constructor
      · rintro ⟨y, hy, rfl⟩; exact ⟨y, List.mem_append_left _ hy, rfl⟩
      · rintro ⟨y, hy, rfl⟩
        rcases List.mem_append.1 hy with hy | hy
        · exact ⟨y, hy, rfl⟩
        · rw [List.mem_singleton] at hy; subst hy; exact absurd rfl e
  · intro y
    by_cases e : y = x
    · subst e
      rw [atKey_put_same hm (by trivial)]
      simp
    · rw [atKey_put_other (by intro e'; injection e' with _ e'; exact e e'), h.at']
      have e2 : ¬ x = y := fun h => e h.symm
      simp [List.count_singleton, e2]
theorem has_atKey {D : DataW Unit} {k : Lit} (h : Maps.has D k = true) (z z' : DataW Unit) : D.atKey k z = D.atKey k z' := by
  cases D <;> try (simp [Maps.has] at h; done)
  rename_i es
  obtain ⟨p, hp, hpk⟩ := List.any_eq_true.1 h
  have hs : (es.find? (fun p => p.1.sameKey k)).isSome = true := List.find?_isSome.2 ⟨p, hp, hpk⟩
  obtain ⟨x, hx⟩ := Option.isSome_iff_exists.1 hs
  simp [DataW.atKey, hx]
/-- Two that count lists of the same things are one. -/
theorem cnt_same {L M : List Int} {D E : DataW Unit} (h : CntD L D) (k : CntD M E) (hp : L.Perm M) (hD : Canon D) (hE : Canon E) : D = E := by
  have hh : ∀ q, Maps.has D q = Maps.has E q := by
    intro q
    rw [Bool.eq_iff_iff, h.has, k.has]
    constructor
    · rintro ⟨x, hx, rfl⟩; exact ⟨x, hp.mem_iff.1 hx, rfl⟩
    · rintro ⟨x, hx, rfl⟩; exact ⟨x, hp.mem_iff.2 hx, rfl⟩
  refine ext hD hE hh (fun q z hq => ?_)
  obtain ⟨x, hx, rfl⟩ := (h.has q).1 hq
  have hq2 : Maps.has E (.int .i64 x) = true := by rw [← hh]; exact hq
  rw [has_atKey hq z (.lit (.int .i64 0)), has_atKey hq2 z (.lit (.int .i64 0)), h.at', k.at', hp.count_eq]
theorem law3 : Keyed Try.prog 3 := int_keyed Try.underlying3
theorem zero3 (w : World) : (zeroValue 3).run Try.prog w = .ok (.int .i64 0) w := by kernel_rfl
def Cnt (W : World) (b n : Nat) (L : List Int) : Prop := ∃ D : DataW Unit, W.ownsMap Try.prog 3 (plainElem Try.prog 3) b n D ∧ CntD L D
theorem Cnt.kept {W W' : World} {b n : Nat} {L : List Int} {row : Option Nat} (h : Cnt W b n L) (hg : W.grownBy W' row) (hne : some b ≠ row) : Cnt W' b n L := by
  obtain ⟨D, h1, h2⟩ := h
  exact ⟨D, h1.kept hg hne, h2⟩
theorem Cnt.below {W W' : World} {b n : Nat} {L : List Int} (h : Cnt W b n L) (hb : Below W.heap.size W W') : Cnt W' b n L := h.kept (grown_below hb none) (by simp)
theorem Cnt.look {W : World} {b n : Nat} {L : List Int} (h : Cnt W b n L) (x : Int) (hx : (Lit.int .i64 x).wf = true) : (Instr.lookup 48 (.map (some b)) (.int .i64 x) false).run Try.prog W = .ok (.int .i64 (L.count x : Nat)) W := by
  obtain ⟨D, h1, h2⟩ := h
  obtain ⟨c, hr, hat, _⟩ := h1.lookup_int law3 Try.underlying48 Try.underlying3 (zero3 W) (keyOf_int_mk Try.underlying3 hx)
  rw [h2.at' x] at hat
  injection hat with hat
  injection hat with _ hat
  rw [hr, ← hat]
theorem lt_cnt {W : World} {b n : Nat} {L : List Int} (h : Cnt W b n L) : b < W.heap.size := by obtain ⟨D, h1, _⟩ := h; exact h1.lt
def sumsV (b : Nat) (S : Int) : Value := .agg #[.map (some b), .int .u64 (cH S), .int .u64 (cL S)]
def nzI (l : List Int) : List Int := l.filter (· ≠ 0)
theorem nzI_succ {l : List Int} {k : Nat} (h : k < l.length) : nzI (l.take (k + 1)) = if l[k] = 0 then nzI (l.take k) else nzI (l.take k) ++ [l[k]] := by
  rw [List.take_succ_eq_append_getElem h]
  unfold nzI
  rw [List.filter_append]
  by_cases e : l[k] = 0 <;> simp [e]
theorem sum_succ {l : List Int} {k : Nat} (h : k < l.length) : (l.take (k + 1)).sum = (l.take k).sum + l[k] := by
  rw [List.take_succ_eq_append_getElem h, List.sum_append]; simp
theorem nzI_len (l : List Int) : (nzI l).length ≤ l.length := List.length_filter_le _ _
/-- The box of sums. -/
def SBox (W : World) (g b : Nat) (S : Int) : Prop := W.heap[g]? = some (.cells #[.map (some b), .int .u64 (cH S), .int .u64 (cL S)] 52)
theorem szS : (Try.prog.info? 52).map (·.size) = some 3 := by kernel_rfl
set_option maxRecDepth 100000 in
set_option maxHeartbeats 4000000 in
theorem held_any (a : Option Addr) (c : Nat) (es : List Ent) (w : World) (hs : Sl w a (eFlat es)) (he : ∀ e ∈ es, EntOk w e) (hm : es.length ≤ 2513169434843) :
    Calls Try.prog 26 #[.slice a es.length c] w fun e w' => ∃ b, e = .returned (sumsV b (es.map Ent.coins).sum) ∧ w.heap.size ≤ b ∧ Cnt w' b es.length (nzI (es.map Ent.item)) ∧ Below w.heap.size w w' := by
  have HS := Lib.hid hs
  have HE := Lib.hid he
  clear hs he
  have hmm := @run_makeMap Try.prog
  have HB0 := Lib.hid (show Below w.heap.size w (((w.alloc (.cells #[.map none, .int .u64 0, .int .u64 0] 52)).alloc (.map #[] 0)).alloc (.cells #[.map (some (w.heap.size + 1)), .int .u64 0, .int .u64 0] 52)) from
    ((((Below.refl w.heap.size w).alloc (Nat.le_refl _) _).alloc (by simp) _).alloc (by simp; omega) _))
  have HR0 := Lib.hid (show (((w.alloc (.cells #[.map none, .int .u64 0, .int .u64 0] 52)).alloc (.map #[] 0)).alloc (.cells #[.map (some (w.heap.size + 1)), .int .u64 0, .int .u64 0] 52)).heap[w.heap.size]? = some (.cells #[.map none, .int .u64 0, .int .u64 0] 52) from alloc_old (alloc_old (alloc_at rfl)))
  have HX0 := Lib.hid (show SBox (((w.alloc (.cells #[.map none, .int .u64 0, .int .u64 0] 52)).alloc (.map #[] 0)).alloc (.cells #[.map (some (w.heap.size + 1)), .int .u64 0, .int .u64 0] 52)) (w.heap.size + 1 + 1) (w.heap.size + 1) 0 from alloc_at (by simp))
  have HC0 := Lib.hid (show Cnt (((w.alloc (.cells #[.map none, .int .u64 0, .int .u64 0] 52)).alloc (.map #[] 0)).alloc (.cells #[.map (some (w.heap.size + 1)), .int .u64 0, .int .u64 0] 52)) (w.heap.size + 1) 0 [] from by
    have h := World.ownsMap_made (w.alloc (.cells #[.map none, .int .u64 0, .int .u64 0] 52)) Try.prog 3 (plainElem (H := Unit) Try.prog 3)
    rw [World.size_alloc] at h
    exact ⟨.map [], h.alloc _, cnt_start⟩)
  go_enter Try.func26, Try.ntmps26
  go_wp2
  go_loopw [4] (fun i wr => ∃ k : Nat, k ≤ es.length ∧ i = .int .i64 k ∧ Below w.heap.size w wr ∧ wr.heap[w.heap.size]? = some (.cells #[.map none, .int .u64 0, .int .u64 0] 52) ∧ SBox wr (w.heap.size + 1 + 1) (w.heap.size + 1) ((es.map Ent.coins).take k).sum ∧ Cnt wr (w.heap.size + 1) k (nzI ((es.map Ent.item).take k))) (fun i _ => es.length - (intOf i).toNat)
  case atStart => exact ⟨0, by omega, rfl, HB0.out, HR0.out, HX0.out, HC0.out⟩
  case round =>
    clear HB0 HR0 HX0 HC0
    obtain ⟨k, hk, rfl, hb, hr, hx, hc⟩ := hrel
    have HB := Lib.hid hb
    have HR := Lib.hid hr
    have HX := Lib.hid hx
    have HC := Lib.hid hc
    clear hb hr hx hc
    by_cases hlt : k < es.length
    case pos =>
      have t0 : decide ((k : Int) < (es.length : Int)) = true := by simp; omega
      have i1 : (k : Int) < (es.length : Int) := by omega
      obtain ⟨ob, oo, hae, y0, y1, y2, y3, y4⟩ := ent_at (HS.out.kept HB.out) k hlt
      have WI := Lib.hid (HE.out _ (List.getElem_mem hlt)).iw
      have WC := Lib.hid (HE.out _ (List.getElem_mem hlt)).cw
      have HNI := Lib.hid (show nzI ((es.map Ent.item).take (k + 1)) = if (es[k]).item = 0 then nzI ((es.map Ent.item).take k) else nzI ((es.map Ent.item).take k) ++ [(es[k]).item] by
        have h := nzI_succ (l := es.map Ent.item) (k := k) (by simpa using hlt)
        simpa only [List.getElem_map] using h)
      have HSI := Lib.hid (show ((es.map Ent.coins).take (k + 1)).sum = ((es.map Ent.coins).take k).sum + (es[k]).coins by
        have h := sum_succ (l := es.map Ent.coins) (k := k) (by simpa using hlt)
        simpa only [List.getElem_map] using h)
      have HLN := Lib.hid (show (nzI ((es.map Ent.item).take k)).length ≤ k by have := nzI_len ((es.map Ent.item).take k); rw [List.length_take] at this; omega)
      have hob : ob < w.heap.size := by
        obtain ⟨ob2, oo2, e2, z2⟩ := ent_at HS.out k hlt
        rw [hae] at e2; cases e2
        exact World.block_lt_of_cell? _ _ z2.1
      generalize es[k] = x at *
      generalize hxi : x.item = xi at *
      generalize hxc : x.coins = xc at *
      generalize nzI ((es.map Ent.item).take k) = L at *
      generalize ((es.map Ent.coins).take k).sum = S at *
      clear hxi hxc y0 y3 y4
      subst hae
      obtain ⟨s0, s1, s2⟩ := cells3 HX.out
      by_cases hx0 : xi = 0
      · have c0 : (xi != 0) = false := by simpa using hx0
        have HNI := Lib.hid (HNI.out.trans (if_pos hx0))
        clear hx0
        go_wp2_with fail
        refine (wadd_any (w.heap.size + 1 + 1) _ S xc wr HX.out WC.out).mono ?_
        rintro e w1 ⟨rfl, hp⟩
        have HX1 := Lib.hid (show SBox w1 (w.heap.size + 1 + 1) (w.heap.size + 1) (S + xc) from hp.at')
        have HR1 := Lib.hid (hp.row HR.out (by omega))
        have HC1 := Lib.hid (HC.out.kept hp.grown (fun e => by injection e with e; omega))
        have HB1 := Lib.hid (hp.below HB.out HB.out.size (by omega))
        clear hp s0 s1 s2 y1 y2
        go_wp2
        go_roundw
        case rel => exact ⟨k + 1, by omega, by go_num, HB1.out, HR1.out, by rw [HSI.out]; exact HX1.out, by rw [HNI.out]; obtain ⟨D, h1, h2⟩ := HC1.out; exact ⟨D, h1.mono (Nat.le_succ _), h2⟩⟩
        case measure => simp [intOf]; omega
      · have c0 : (xi != 0) = true := by simpa using hx0
        have HNI := Lib.hid (HNI.out.trans (if_neg hx0))
        clear hx0
        have HCN := Lib.hid (show (L.count xi : Nat) ≤ k from Nat.le_trans List.count_le_length HLN.out)
        have cw : IntKind.i64.wrap (((L.count xi : Nat) : Int) + 1) = ((L.count xi : Nat) : Int) + 1 := by have := HCN.out; rw [IntKind.wrap_i64]; omega
        go_wp2
        refine wp_region_inv 9 (fun W => Qt wr W) (by kernel_rfl) (by kernel_rfl) (fun n => ⟨n, rfl⟩) ?_
        simp only [List.take_succ_cons, List.take_zero]
        iterate 9
          apply wpInv_cons
          · rfl
          · intro Wx hw
            have k1 := (hw.cell ⟨w.heap.size + 1 + 1, 0, none⟩).trans s0
            have k2 := (hw.cell ⟨ob, oo + k * 5 + 1, none⟩).trans y1
            have k3 := (HC.out.below (hw.below _)).look xi WI.out
            go_simp
            exact ⟨hw, rfl⟩
          simp only [Act.put, List.setIfInBounds_toArray, List.set_cons_zero, List.set_cons_succ]
        refine wpInv_nil fun V hq => ?_
        simp only [List.drop_succ_cons, List.drop_zero]
        have HQ := Lib.hid hq
        clear hq
        obtain ⟨D, hown, hcnt⟩ := HC.out.below (HQ.out.below _)
        have HOW := Lib.hid hown
        have HCT := Lib.hid hcnt
        have HWF := Lib.hid (show (Lit.int .i64 (((L.count xi : Nat) : Int) + 1)).wf = true by have := HCN.out; simp [Lit.wf, IntKind.min, IntKind.max, IntKind.signed, IntKind.bits]; omega)
        have HMX := Lib.hid (show k < maxLen by unfold maxLen; omega)
        have HX2 := Lib.hid (show SBox V (w.heap.size + 1 + 1) (w.heap.size + 1) S from row_kept HX.out (HQ.out.below _))
        have HR2 := Lib.hid (row_kept HR.out (HQ.out.below _))
        have HB2 := Lib.hid (HB.out.trans ((HQ.out.below _).mono HB.out.size))
        have YC := Lib.hid ((HQ.out.cell ⟨ob, oo + k * 5 + 2, none⟩).trans y2)
        clear hown hcnt s0 s1 s2 y1 y2 HX HR HC HB cw
        go_wp2_with (at_mapUpdate; refine wpList_mapUpdate_own _ rfl _ _ _ 48 rfl 3 3 law3 Try.underlying48 _ (w.heap.size + 1) k D rfl HOW.out HMX.out _ _ (.int .i64 xi) rfl rfl (keyOf_int_mk Try.underlying3 WI.out) _ [] (plainElem_int Try.underlying3 HWF.out) ?_; intro w1 hown1 hg1; have y2 := (hg1.cell YC.out (fun e => by injection e with e; simp only at e; omega)))
        have HX3 := Lib.hid (show SBox w1 (w.heap.size + 1 + 1) (w.heap.size + 1) S from row_away HX2.out hg1 (by omega))
        have HR3 := Lib.hid (row_away HR2.out hg1 (by omega))
        have HB3 := Lib.hid (HB2.out.grown hg1 HB2.out.size (fun j hj => by injection hj with hj; omega))
        have HC3 := Lib.hid (show Cnt w1 (w.heap.size + 1) (k + 1) (L ++ [xi]) from ⟨_, hown1, cnt_step HCT.out HOW.out.isMap xi⟩)
        clear hown1 hg1 HX2 HR2 HB2 YC
        refine (wadd_any (w.heap.size + 1 + 1) _ S xc w1 HX3.out WC.out).mono ?_
        rintro e w2 ⟨rfl, hp⟩
        have HX4 := Lib.hid (show SBox w2 (w.heap.size + 1 + 1) (w.heap.size + 1) (S + xc) from hp.at')
        have HR4 := Lib.hid (hp.row HR3.out (by omega))
        have HC4 := Lib.hid (HC3.out.kept hp.grown (fun e => by injection e with e; omega))
        have HB4 := Lib.hid (hp.below HB3.out HB3.out.size (by omega))
        clear hp y2
        go_wp2
        go_roundw
        case rel => exact ⟨k + 1, by omega, by go_num, HB4.out, HR4.out, by rw [HSI.out]; exact HX4.out, by rw [HNI.out]; exact HC4.out⟩
        case measure => simp [intOf]; omega
    case neg =>
      have t0 : decide ((k : Int) < (es.length : Int)) = false := by simp; omega
      have HCF := Lib.hid (show Cnt wr (w.heap.size + 1) es.length (nzI (es.map Ent.item)) by have h := HC.out; rw [show k = es.length by omega, List.take_of_length_le (by simp)] at h; exact h)
      have HXF := Lib.hid (show SBox wr (w.heap.size + 1 + 1) (w.heap.size + 1) (es.map Ent.coins).sum by have h := HX.out; rw [show k = es.length by omega, List.take_of_length_le (by simp)] at h; exact h)
      clear HC HX
      generalize hSS : (es.map Ent.coins).sum = S at *
      generalize hLL : nzI (es.map Ent.item) = L at *
      have HSS := Lib.hid hSS
      have HLL := Lib.hid hLL
      clear hSS hLL
      obtain ⟨s0, s1, s2⟩ := cells3 HXF.out
      go_wp2_with ((with_reducible refine at_store_op ?_); refine wpList_store_lit 52 w.heap.size 0 #[.map (some (w.heap.size + 1)), .int .u64 (cH S), .int .u64 (cL S)] (sumsV (w.heap.size + 1) S) HR.out szS (Nat.le_of_ble_eq_true rfl) rfl rfl ?_ ?_ ?_; exact rfl; exact rfl; intro w1 hp1)
      refine bodyPost_ret (results_cell_row Try.results26 _ _ w.heap.size 52 _ _ _ rfl hp1.at' Try.underlying52 rfl szS) rfl ?_
      rw [HSS.out, HLL.out]
      exact ⟨w.heap.size + 1, rfl, by omega, HCF.out.kept hp1.grown (fun e => by injection e with e; omega), hp1.below HB.out HB.out.size (Nat.le_refl _)⟩
set_option maxRecDepth 100000 in
set_option maxHeartbeats 4000000 in
theorem given_any (a : Option Addr) (c : Nat) (es : List Gi) (w : World) (hs : Sl w a (gFlat es)) (he : ∀ g ∈ es, (Lit.int .i64 g.item).wf = true ∧ (Lit.int .u64 g.coins).wf = true) (hm : es.length ≤ 5864062014634) :
    Calls Try.prog 28 #[.slice a es.length c] w fun e w' => ∃ b, e = .returned (sumsV b (es.map Gi.coins).sum) ∧ w.heap.size ≤ b ∧ Cnt w' b es.length (nzI (es.map Gi.item)) ∧ Below w.heap.size w w' := by
  have HS := Lib.hid hs
  have HE := Lib.hid he
  clear hs he
  have hmm := @run_makeMap Try.prog
  have HB0 := Lib.hid (show Below w.heap.size w (((w.alloc (.cells #[.map none, .int .u64 0, .int .u64 0] 52)).alloc (.map #[] 0)).alloc (.cells #[.map (some (w.heap.size + 1)), .int .u64 0, .int .u64 0] 52)) from
    ((((Below.refl w.heap.size w).alloc (Nat.le_refl _) _).alloc (by simp) _).alloc (by simp; omega) _))
  have HR0 := Lib.hid (show (((w.alloc (.cells #[.map none, .int .u64 0, .int .u64 0] 52)).alloc (.map #[] 0)).alloc (.cells #[.map (some (w.heap.size + 1)), .int .u64 0, .int .u64 0] 52)).heap[w.heap.size]? = some (.cells #[.map none, .int .u64 0, .int .u64 0] 52) from alloc_old (alloc_old (alloc_at rfl)))
  have HX0 := Lib.hid (show SBox (((w.alloc (.cells #[.map none, .int .u64 0, .int .u64 0] 52)).alloc (.map #[] 0)).alloc (.cells #[.map (some (w.heap.size + 1)), .int .u64 0, .int .u64 0] 52)) (w.heap.size + 1 + 1) (w.heap.size + 1) 0 from alloc_at (by simp))
  have HC0 := Lib.hid (show Cnt (((w.alloc (.cells #[.map none, .int .u64 0, .int .u64 0] 52)).alloc (.map #[] 0)).alloc (.cells #[.map (some (w.heap.size + 1)), .int .u64 0, .int .u64 0] 52)) (w.heap.size + 1) 0 [] from by
    have h := World.ownsMap_made (w.alloc (.cells #[.map none, .int .u64 0, .int .u64 0] 52)) Try.prog 3 (plainElem (H := Unit) Try.prog 3)
    rw [World.size_alloc] at h
    exact ⟨.map [], h.alloc _, cnt_start⟩)
  go_enter Try.func28, Try.ntmps28
  go_wp2
  go_loopw [4] (fun i wr => ∃ k : Nat, k ≤ es.length ∧ i = .int .i64 k ∧ Below w.heap.size w wr ∧ wr.heap[w.heap.size]? = some (.cells #[.map none, .int .u64 0, .int .u64 0] 52) ∧ SBox wr (w.heap.size + 1 + 1) (w.heap.size + 1) ((es.map Gi.coins).take k).sum ∧ Cnt wr (w.heap.size + 1) k (nzI ((es.map Gi.item).take k))) (fun i _ => es.length - (intOf i).toNat)
  case atStart => exact ⟨0, by omega, rfl, HB0.out, HR0.out, HX0.out, HC0.out⟩
  case round =>
    clear HB0 HR0 HX0 HC0
    obtain ⟨k, hk, rfl, hb, hr, hx, hc⟩ := hrel
    have HB := Lib.hid hb
    have HR := Lib.hid hr
    have HX := Lib.hid hx
    have HC := Lib.hid hc
    clear hb hr hx hc
    by_cases hlt : k < es.length
    case pos =>
      have t0 : decide ((k : Int) < (es.length : Int)) = true := by simp; omega
      have i1 : (k : Int) < (es.length : Int) := by omega
      obtain ⟨ob, oo, hae, y0, y1, y2⟩ := gift_at (HS.out.kept HB.out) k hlt
      have WI := Lib.hid (HE.out _ (List.getElem_mem hlt)).1
      have WC := Lib.hid (HE.out _ (List.getElem_mem hlt)).2
      have HNI := Lib.hid (show nzI ((es.map Gi.item).take (k + 1)) = if (es[k]).item = 0 then nzI ((es.map Gi.item).take k) else nzI ((es.map Gi.item).take k) ++ [(es[k]).item] by
        have h := nzI_succ (l := es.map Gi.item) (k := k) (by simpa using hlt)
        simpa only [List.getElem_map] using h)
      have HSI := Lib.hid (show ((es.map Gi.coins).take (k + 1)).sum = ((es.map Gi.coins).take k).sum + (es[k]).coins by
        have h := sum_succ (l := es.map Gi.coins) (k := k) (by simpa using hlt)
        simpa only [List.getElem_map] using h)
      have HLN := Lib.hid (show (nzI ((es.map Gi.item).take k)).length ≤ k by have := nzI_len ((es.map Gi.item).take k); rw [List.length_take] at this; omega)
      have hob : ob < w.heap.size := by
        obtain ⟨ob2, oo2, e2, z2⟩ := gift_at HS.out k hlt
        rw [hae] at e2; cases e2
        exact World.block_lt_of_cell? _ _ z2.1
      generalize es[k] = x at *
      generalize hxi : x.item = xi at *
      generalize hxc : x.coins = xc at *
      generalize nzI ((es.map Gi.item).take k) = L at *
      generalize ((es.map Gi.coins).take k).sum = S at *
      clear hxi hxc y0 
      subst hae
      obtain ⟨s0, s1, s2⟩ := cells3 HX.out
      by_cases hx0 : xi = 0
      · have c0 : (xi != 0) = false := by simpa using hx0
        have HNI := Lib.hid (HNI.out.trans (if_pos hx0))
        clear hx0
        go_wp2_with fail
        refine (wadd_any (w.heap.size + 1 + 1) _ S xc wr HX.out WC.out).mono ?_
        rintro e w1 ⟨rfl, hp⟩
        have HX1 := Lib.hid (show SBox w1 (w.heap.size + 1 + 1) (w.heap.size + 1) (S + xc) from hp.at')
        have HR1 := Lib.hid (hp.row HR.out (by omega))
        have HC1 := Lib.hid (HC.out.kept hp.grown (fun e => by injection e with e; omega))
        have HB1 := Lib.hid (hp.below HB.out HB.out.size (by omega))
        clear hp s0 s1 s2 y1 y2
        go_wp2
        go_roundw
        case rel => exact ⟨k + 1, by omega, by go_num, HB1.out, HR1.out, by rw [HSI.out]; exact HX1.out, by rw [HNI.out]; obtain ⟨D, h1, h2⟩ := HC1.out; exact ⟨D, h1.mono (Nat.le_succ _), h2⟩⟩
        case measure => simp [intOf]; omega
      · have c0 : (xi != 0) = true := by simpa using hx0
        have HNI := Lib.hid (HNI.out.trans (if_neg hx0))
        clear hx0
        have HCN := Lib.hid (show (L.count xi : Nat) ≤ k from Nat.le_trans List.count_le_length HLN.out)
        have cw : IntKind.i64.wrap (((L.count xi : Nat) : Int) + 1) = ((L.count xi : Nat) : Int) + 1 := by have := HCN.out; rw [IntKind.wrap_i64]; omega
        go_wp2
        refine wp_region_inv 9 (fun W => Qt wr W) (by kernel_rfl) (by kernel_rfl) (fun n => ⟨n, rfl⟩) ?_
        simp only [List.take_succ_cons, List.take_zero]
        iterate 9
          apply wpInv_cons
          · rfl
          · intro Wx hw
            have k1 := (hw.cell ⟨w.heap.size + 1 + 1, 0, none⟩).trans s0
            have k2 := (hw.cell ⟨ob, oo + k * 3 + 1, none⟩).trans y1
            have k3 := (HC.out.below (hw.below _)).look xi WI.out
            go_simp
            exact ⟨hw, rfl⟩
          simp only [Act.put, List.setIfInBounds_toArray, List.set_cons_zero, List.set_cons_succ]
        refine wpInv_nil fun V hq => ?_
        simp only [List.drop_succ_cons, List.drop_zero]
        have HQ := Lib.hid hq
        clear hq
        obtain ⟨D, hown, hcnt⟩ := HC.out.below (HQ.out.below _)
        have HOW := Lib.hid hown
        have HCT := Lib.hid hcnt
        have HWF := Lib.hid (show (Lit.int .i64 (((L.count xi : Nat) : Int) + 1)).wf = true by have := HCN.out; simp [Lit.wf, IntKind.min, IntKind.max, IntKind.signed, IntKind.bits]; omega)
        have HMX := Lib.hid (show k < maxLen by unfold maxLen; omega)
        have HX2 := Lib.hid (show SBox V (w.heap.size + 1 + 1) (w.heap.size + 1) S from row_kept HX.out (HQ.out.below _))
        have HR2 := Lib.hid (row_kept HR.out (HQ.out.below _))
        have HB2 := Lib.hid (HB.out.trans ((HQ.out.below _).mono HB.out.size))
        have YC := Lib.hid ((HQ.out.cell ⟨ob, oo + k * 3 + 2, none⟩).trans y2)
        clear hown hcnt s0 s1 s2 y1 y2 HX HR HC HB cw
        go_wp2_with (at_mapUpdate; refine wpList_mapUpdate_own _ rfl _ _ _ 48 rfl 3 3 law3 Try.underlying48 _ (w.heap.size + 1) k D rfl HOW.out HMX.out _ _ (.int .i64 xi) rfl rfl (keyOf_int_mk Try.underlying3 WI.out) _ [] (plainElem_int Try.underlying3 HWF.out) ?_; intro w1 hown1 hg1; have y2 := (hg1.cell YC.out (fun e => by injection e with e; simp only at e; omega)))
        have HX3 := Lib.hid (show SBox w1 (w.heap.size + 1 + 1) (w.heap.size + 1) S from row_away HX2.out hg1 (by omega))
        have HR3 := Lib.hid (row_away HR2.out hg1 (by omega))
        have HB3 := Lib.hid (HB2.out.grown hg1 HB2.out.size (fun j hj => by injection hj with hj; omega))
        have HC3 := Lib.hid (show Cnt w1 (w.heap.size + 1) (k + 1) (L ++ [xi]) from ⟨_, hown1, cnt_step HCT.out HOW.out.isMap xi⟩)
        clear hown1 hg1 HX2 HR2 HB2 YC
        refine (wadd_any (w.heap.size + 1 + 1) _ S xc w1 HX3.out WC.out).mono ?_
        rintro e w2 ⟨rfl, hp⟩
        have HX4 := Lib.hid (show SBox w2 (w.heap.size + 1 + 1) (w.heap.size + 1) (S + xc) from hp.at')
        have HR4 := Lib.hid (hp.row HR3.out (by omega))
        have HC4 := Lib.hid (HC3.out.kept hp.grown (fun e => by injection e with e; omega))
        have HB4 := Lib.hid (hp.below HB3.out HB3.out.size (by omega))
        clear hp y2
        go_wp2
        go_roundw
        case rel => exact ⟨k + 1, by omega, by go_num, HB4.out, HR4.out, by rw [HSI.out]; exact HX4.out, by rw [HNI.out]; exact HC4.out⟩
        case measure => simp [intOf]; omega
    case neg =>
      have t0 : decide ((k : Int) < (es.length : Int)) = false := by simp; omega
      have HCF := Lib.hid (show Cnt wr (w.heap.size + 1) es.length (nzI (es.map Gi.item)) by have h := HC.out; rw [show k = es.length by omega, List.take_of_length_le (by simp)] at h; exact h)
      have HXF := Lib.hid (show SBox wr (w.heap.size + 1 + 1) (w.heap.size + 1) (es.map Gi.coins).sum by have h := HX.out; rw [show k = es.length by omega, List.take_of_length_le (by simp)] at h; exact h)
      clear HC HX
      generalize hSS : (es.map Gi.coins).sum = S at *
      generalize hLL : nzI (es.map Gi.item) = L at *
      have HSS := Lib.hid hSS
      have HLL := Lib.hid hLL
      clear hSS hLL
      obtain ⟨s0, s1, s2⟩ := cells3 HXF.out
      go_wp2_with ((with_reducible refine at_store_op ?_); refine wpList_store_lit 52 w.heap.size 0 #[.map (some (w.heap.size + 1)), .int .u64 (cH S), .int .u64 (cL S)] (sumsV (w.heap.size + 1) S) HR.out szS (Nat.le_of_ble_eq_true rfl) rfl rfl ?_ ?_ ?_; exact rfl; exact rfl; intro w1 hp1)
      refine bodyPost_ret (results_cell_row Try.results28 _ _ w.heap.size 52 _ _ _ rfl hp1.at' Try.underlying52 rfl szS) rfl ?_
      rw [HSS.out, HLL.out]
      exact ⟨w.heap.size + 1, rfl, by omega, HCF.out.kept hp1.grown (fun e => by injection e with e; omega), hp1.below HB.out HB.out.size (Nat.le_refl _)⟩
end Go.Proofs.Ytpejcndfplbikaa
