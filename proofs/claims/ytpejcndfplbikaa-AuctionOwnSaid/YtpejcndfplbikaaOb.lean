/-
  Layer 21: two sums alike; two sums together.
-/
import Derived.Test.YtpejcndfplbikaaOa
import Derived.Maps.OwnSet
namespace Go.Proofs.Ytpejcndfplbikaa
open Go.RowKit Go.K Go.Maps
set_option linter.unusedVariables false
set_option linter.unusedSimpArgs false
theorem below_none {w w' : World} (h : w.grownBy w' none) : Below w.heap.size w w' := (Below.refl _ _).grown h (Nat.le_refl _) (fun j hj => by cases hj)
set_option maxRecDepth 100000 in
set_option maxHeartbeats 4000000 in
theorem alike_true (b1 b2 n1 n2 : Nat) (L1 L2 : List Int) (S : Int) (w : World) (h1 : Cnt w b1 n1 L1) (h2 : Cnt w b2 n2 L2) (hp : L1.Perm L2) :
    Calls Try.prog 27 #[sumsV b1 S, sumsV b2 S] w fun e w' => e = .returned (.bool true) ∧ Below w.heap.size w w' := by
  obtain ⟨D, o1, c1⟩ := h1
  obtain ⟨E, o2, c2⟩ := h2
  obtain rfl : D = E := cnt_same c1 c2 hp (o1.canon law3) (o2.canon law3)
  have HB0 := Lib.hid (show Below w.heap.size w ((w.alloc (.cells #[.map (some b1), .int .u64 (cH S), .int .u64 (cL S)] 52)).alloc (.cells #[.map (some b2), .int .u64 (cH S), .int .u64 (cL S)] 52)) from ((Below.refl _ _).alloc (Nat.le_refl _) _).alloc (by simp) _)
  have X1 := Lib.hid (show SBox ((w.alloc (.cells #[.map (some b1), .int .u64 (cH S), .int .u64 (cL S)] 52)).alloc (.cells #[.map (some b2), .int .u64 (cH S), .int .u64 (cL S)] 52)) w.heap.size b1 S from alloc_old (alloc_at rfl))
  have X2 := Lib.hid (show SBox ((w.alloc (.cells #[.map (some b1), .int .u64 (cH S), .int .u64 (cL S)] 52)).alloc (.cells #[.map (some b2), .int .u64 (cH S), .int .u64 (cL S)] 52)) (w.heap.size + 1) b2 S from alloc_at (by simp))
  have O1 := Lib.hid ((o1.alloc (.cells #[.map (some b1), .int .u64 (cH S), .int .u64 (cL S)] 52)).alloc (.cells #[.map (some b2), .int .u64 (cH S), .int .u64 (cL S)] 52))
  have O2 := Lib.hid ((o2.alloc (.cells #[.map (some b1), .int .u64 (cH S), .int .u64 (cL S)] 52)).alloc (.cells #[.map (some b2), .int .u64 (cH S), .int .u64 (cL S)] 52))
  have C1 := Lib.hid c1
  have C2 := Lib.hid c2
  clear o1 o2 c1 c2
  unfold sumsV
  go_enter Try.func27, Try.ntmps27
  go_upto_region 1 with fail
  refine wp_world (fun W => Below w.heap.size w W ∧ SBox W w.heap.size b1 S ∧ SBox W (w.heap.size + 1) b2 S ∧ W.ownsMap Try.prog 3 (plainElem Try.prog 3) b1 n1 D ∧ W.ownsMap Try.prog 3 (plainElem Try.prog 3) b2 n2 D) ⟨HB0.out, X1.out, X2.out, O1.out, O2.out⟩ ?_
  intro V ⟨hb, hx1, hx2, ho1, ho2⟩
  have HB := Lib.hid hb
  have X1 := Lib.hid hx1
  have X2 := Lib.hid hx2
  have O1 := Lib.hid ho1
  have O2 := Lib.hid ho2
  have HSV := Lib.hid (show w.heap.size + 1 < V.heap.size from lt_row hx2)
  have HSZ := Lib.hid (show b1 < V.heap.size ∧ b2 < V.heap.size from ⟨ho1.lt, ho2.lt⟩)
  clear hb hx1 hx2 ho1 ho2 HB0
  obtain ⟨s0, s1, s2⟩ := cells3 X1.out
  obtain ⟨t0, t1, t2⟩ := cells3 X2.out
  have k1 := fun ty => O1.out.len Try.underlying48 ty
  have k2 := fun ty => O2.out.len Try.underlying48 ty
  have e1 : (((Maps.size D : Nat) : Int) != ((Maps.size D : Nat) : Int)) = false := by simp
  have e2 : (cH S != cH S) = false := by simp
  have e3 : (cL S != cL S) = false := by simp
  go_wp2_with (first
    | (at_range; refine wpList_range_own _ rfl _ 48 rfl 3 3 law3 Try.underlying48 _ b1 n1 _ rfl O1.out ?_; intro w0 hrg0 hg0 hs0)
    | go_in)
  go_frame
  have HBX := Lib.hid (HB.out.trans ((below_none hg0).mono HB.out.size))
  have HOO := Lib.hid (O2.out.kept hg0 (by simp))
  have HX2 := Lib.hid (row_past X2.out hg0 (by simp))
  have HRG := Lib.hid hrg0
  clear hg0 hs0 hrg0 k1 k2 e1 e2 e3 s0 s1 s2 t0 t1 t2 O1 O2 X1 X2
  go_loopw [5, 6] (fun _ _ wr => ∃ (left : Lit → Bool) (cnt : Nat), wr.ranges Try.prog 3 (plainElem Try.prog 3) b1 V.heap.size n1 D left cnt ∧ Below w.heap.size w wr ∧ SBox wr (w.heap.size + 1) b2 S ∧ wr.ownsMap Try.prog 3 (plainElem Try.prog 3) b2 n2 D) (fun _ _ wr => wr.rangeLeft b1 V.heap.size)
  case atStart => exact ⟨_, _, HRG.out, HBX.out, HX2.out, HOO.out⟩
  case round =>
    clear HBX HOO HX2 HRG
    obtain ⟨left, cnt, hrg, hb, hx, ho⟩ := hrel
    have HRG := Lib.hid hrg
    have HB := Lib.hid hb
    have HX := Lib.hid hx
    have HO := Lib.hid ho
    have HNE := Lib.hid (show w.heap.size + 1 < V.heap.size from HSV.out)
    clear hrg hb hx ho
    go_wp2_with (first
      | (at_next; refine wpList_next_ranges_ii _ rfl _ rfl 3 3 .i64 .i64 law3 Try.underlying3 Try.underlying3 b1 V.heap.size n1 _ _ _ rfl HRG.out ?_ ?_)
      | go_in)
    · intro _ _
      go_wp2
      go_ret
      exact ⟨rfl, HB.out⟩
    · intro x c w1 cnt1 hwx hwc hlx hat hrg1 hlt hg1 hs1 hen
      have HRG1 := Lib.hid hrg1
      have HO1 := Lib.hid (HO.out.kept hg1 (fun e => by injection e with e; have := HSZ.out; omega))
      have HX1 := Lib.hid (show SBox w1 (w.heap.size + 1) b2 S from row_past HX.out hg1 (fun e => by injection e with e; have := HNE.out; omega))
      have HB1 := Lib.hid (HB.out.grown hg1 HB.out.size (fun j hj => by injection hj with hj; have := HNE.out; omega))
      have hc : c = (L1.count x : Nat) := by
        have h := hat (.lit (.int .i64 0))
        rw [C1.out.at' x] at h
        injection h with h
        injection h with _ h
        exact h.symm
      have hlk := (show Cnt w1 b2 n2 L2 from ⟨D, HO1.out, C2.out⟩).look x hwx
      rw [← hp.count_eq] at hlk
      subst hc
      have e1 : (((L1.count x : Nat) : Int) != ((L1.count x : Nat) : Int)) = false := by simp
      obtain ⟨t0, t1, t2⟩ := cells3 HX1.out
      clear hrg1 hat hg1 hs1 hlx
      go_wp2
      go_roundw
      case rel => exact ⟨_, cnt1, HRG1.out, HB1.out, HX1.out, HO1.out⟩
      case measure => rw [HRG1.out.left_eq, HRG.out.left_eq]; exact hlt
/-- A map on its way from counting L1 to counting both. -/
structure CntB (L1 L2 : List Int) (left : Lit → Bool) (D : DataW Unit) : Prop where
  has : ∀ k : Lit, Maps.has D k = true ↔ (∃ x ∈ L1, k = .int .i64 x) ∨ ((∃ x ∈ L2, k = .int .i64 x) ∧ left k = false)
  at' : ∀ x : Int, D.atKey (.int .i64 x) (.lit (.int .i64 0)) = .lit (.int .i64 ((L1.count x : Nat) + (if left (.int .i64 x) = true then 0 else (L2.count x : Nat))))
theorem cntB_start {L1 L2 : List Int} {D E : DataW Unit} (h : CntD L1 D) (k : CntD L2 E) : CntB L1 L2 (Maps.has E) D := by
  constructor
  · intro q
    rw [h.has]
    constructor
    · exact .inl
    · rintro (h1 | ⟨h1, h2⟩)
      · exact h1
      · rw [(k.has q).2 h1] at h2; cases h2
  · intro x
    rw [h.at']
    by_cases hx : Maps.has E (.int .i64 x) = true
    · rw [if_pos hx]; simp
    · rw [if_neg hx]
      have : L2.count x = 0 := List.count_eq_zero.2 (fun hm => hx ((k.has _).2 ⟨x, hm, rfl⟩))
      rw [this]; simp
theorem cntB_step {L1 L2 : List Int} {left : Lit → Bool} {D E : DataW Unit} (h : CntB L1 L2 left D) (k : CntD L2 E) (hm : IsMap D) (x : Int) (hE : Maps.has E (.int .i64 x) = true) :
    CntB L1 L2 (fun z => left z && !z.sameKey (.int .i64 x)) (D.put (.int .i64 x) (.lit (.int .i64 ((L1.count x : Nat) + (L2.count x : Nat))))) := by
  constructor
  · intro q
    by_cases e : q = .int .i64 x
    · subst e
      rw [has_put_same hm (by trivial)]
      refine ⟨fun _ => .inr ⟨(k.has _).1 hE, ?_⟩, fun _ => rfl⟩
      rw [WideAt.sameKey_self (by trivial)]; simp
    · rw [has_put_other e, h.has, sameKey_ne e]
      simp
  · intro y
    by_cases e : y = x
    · subst e
      rw [atKey_put_same hm (by trivial), WideAt.sameKey_self (by trivial)]
      simp
    · have e2 : Lit.int .i64 y ≠ .int .i64 x := by intro e'; injection e' with _ e'; exact e e'
      rw [atKey_put_other e2, h.at', sameKey_ne e2]
      simp
theorem cntB_end {L1 L2 : List Int} {left : Lit → Bool} {D : DataW Unit} (h : CntB L1 L2 left D) (hl : ∀ k, left k = false) : CntD (L1 ++ L2) D := by
  constructor
  · intro q
    rw [h.has]
    constructor
    · rintro (⟨x, hx, rfl⟩ | ⟨⟨x, hx, rfl⟩, _⟩)
      · exact ⟨x, List.mem_append_left _ hx, rfl⟩
      · exact ⟨x, List.mem_append_right _ hx, rfl⟩
    · rintro ⟨x, hx, rfl⟩
      rcases List.mem_append.1 hx with hx | hx
      · exact .inl ⟨x, hx, rfl⟩
      · exact .inr ⟨⟨x, hx, rfl⟩, hl _⟩
  · intro x
    rw [h.at', hl, List.count_append]
    simp
theorem cnt_agree {L : List Int} {D E : DataW Unit} (h : CntD L D) (e : E = D) : CntD L E := e ▸ h
theorem both_high (S T : Int) : IntKind.u64.wrap (cH S + cH T) = cH (S + (T - cL T)) ∧ cL S = cL (S + (T - cL T)) := by
  rw [IntKind.wrap_u64]; unfold cH cL; omega
theorem wf_cL (T : Int) : (Lit.int .u64 (cL T)).wf = true := by
  have := cL_lo T
  simp [Lit.wf, IntKind.min, IntKind.max, IntKind.signed, IntKind.bits]
  omega
set_option maxRecDepth 100000 in
set_option maxHeartbeats 4000000 in
theorem both_any (b1 b2 n1 n2 : Nat) (L1 L2 : List Int) (S1 S2 : Int) (w : World) (h1 : Cnt w b1 n1 L1) (h2 : Cnt w b2 n2 L2) (hn : n1 + n2 < 1000000000000000) (hl : L1.length + L2.length < 1000000000000000) :
    Calls Try.prog 30 #[sumsV b1 S1, sumsV b2 S2] w fun e w' => ∃ b, e = .returned (sumsV b (S1 + S2)) ∧ w.heap.size ≤ b ∧ Cnt w' b (n1 + n2) (L1 ++ L2) ∧ Below w.heap.size w w' := by
  obtain ⟨D1, o1, c1⟩ := h1
  obtain ⟨D2, o2, c2⟩ := h2
  have O1 := Lib.hid o1
  have O2 := Lib.hid o2
  have C1 := Lib.hid c1
  have C2 := Lib.hid c2
  have HL := Lib.hid hl
  have HCC := Lib.hid (fun x => (⟨Nat.le_trans List.count_le_length (Nat.le_refl _), Nat.le_trans List.count_le_length (Nat.le_refl _)⟩ : L1.count x ≤ L1.length ∧ L2.count x ≤ L2.length))
  clear o1 o2 c1 c2
  have hmm := @run_makeMap Try.prog
  unfold sumsV
  go_enter Try.func30, Try.ntmps30
  go_upto_region 2 with fail
  refine wp_world (fun W => Below w.heap.size w W ∧ SBox W w.heap.size b1 S1 ∧ SBox W (w.heap.size + 1) b2 S2 ∧ W.heap[w.heap.size + 1 + 1]? = some (.cells #[.map none, .int .u64 0, .int .u64 0] 52) ∧ SBox W (w.heap.size + 1 + 1 + 1 + 1) (w.heap.size + 1 + 1 + 1) S1 ∧
      W.ownsMap Try.prog 3 (plainElem Try.prog 3) b1 n1 D1 ∧ W.ownsMap Try.prog 3 (plainElem Try.prog 3) b2 n2 D2 ∧ W.ownsMap (H := Unit) Try.prog 3 (plainElem Try.prog 3) (w.heap.size + 1 + 1 + 1) 0 (.map []) ∧ b1 < w.heap.size ∧ b2 < w.heap.size)
    ⟨((((Below.refl w.heap.size w).alloc (Nat.le_refl _) _).alloc (by simp) _).alloc (by simp; omega) _).alloc (by simp; omega) _ |>.alloc (by simp; omega) _, alloc_old (alloc_old (alloc_old (alloc_old (alloc_at rfl)))), alloc_old (alloc_old (alloc_old (alloc_at (by simp)))), alloc_old (alloc_old (alloc_at (by simp))), alloc_at (by simp),
      ((((O1.out.alloc _).alloc _).alloc _).alloc _).alloc _, ((((O2.out.alloc _).alloc _).alloc _).alloc _).alloc _, by
        have h := World.ownsMap_made (((w.alloc (.cells #[.map (some b1), .int .u64 (cH S1), .int .u64 (cL S1)] 52)).alloc (.cells #[.map (some b2), .int .u64 (cH S2), .int .u64 (cL S2)] 52)).alloc (.cells #[.map none, .int .u64 0, .int .u64 0] 52)) Try.prog 3 (plainElem (H := Unit) Try.prog 3)
        simp only [World.size_alloc] at h
        exact h.alloc _, O1.out.lt, O2.out.lt⟩ ?_
  intro V ⟨hb, hx1, hx2, hr, hx5, ho1, ho2, hom, hl1, hl2⟩
  have HB := Lib.hid hb
  have X1 := Lib.hid hx1
  have X2 := Lib.hid hx2
  have HR := Lib.hid hr
  have X5 := Lib.hid hx5
  have O1 := Lib.hid ho1
  have O2 := Lib.hid ho2
  have OM := Lib.hid hom
  have HS1 := Lib.hid ho1.size_le
  have HS2 := Lib.hid ho2.size_le
  have HL12 := Lib.hid (And.intro hl1 hl2)
  have HSV := Lib.hid (show w.heap.size + 1 + 1 + 1 + 1 < V.heap.size from lt_row hx5)
  have k1 := (cells3 hx1).1
  clear hb hx1 hx2 hr hx5 ho1 ho2 hom hl1 hl2
  go_wp2_with (first
    | (at_range; refine wpList_range_own _ rfl _ 48 rfl 3 3 law3 Try.underlying48 _ b1 n1 _ rfl O1.out ?_; intro w0 hrg0 hg0 hs0)
    | go_in)
  go_frame
  have HBX := Lib.hid (HB.out.trans ((below_none hg0).mono HB.out.size))
  have Y1 := Lib.hid (And.intro (row_past X2.out hg0 (by simp)) (And.intro (row_past HR.out hg0 (by simp)) (row_past X5.out hg0 (by simp))))
  have Y2 := Lib.hid (And.intro (O2.out.kept hg0 (by simp)) (OM.out.kept hg0 (by simp)))
  have HRG := Lib.hid hrg0
  clear hrg0 hg0 hs0 HB X1 X2 HR X5 O1 O2 OM k1
  go_loopw [6, 7] (fun _ _ wr => ∃ (left : Lit → Bool) (cnt m : Nat) (Dout : DataW Unit), wr.ranges Try.prog 3 (plainElem Try.prog 3) b1 V.heap.size n1 D1 left cnt ∧ m + cnt ≤ n1 ∧ Below w.heap.size w wr ∧ V.heap.size < wr.heap.size ∧
      (SBox wr (w.heap.size + 1) b2 S2 ∧ wr.heap[w.heap.size + 1 + 1]? = some (.cells #[.map none, .int .u64 0, .int .u64 0] 52) ∧ SBox wr (w.heap.size + 1 + 1 + 1 + 1) (w.heap.size + 1 + 1 + 1) S1) ∧
      wr.ownsMap Try.prog 3 (plainElem Try.prog 3) b2 n2 D2 ∧ wr.ownsMap Try.prog 3 (plainElem Try.prog 3) (w.heap.size + 1 + 1 + 1) m Dout ∧ Agree Dout D1 left) (fun _ _ wr => wr.rangeLeft b1 V.heap.size)
  case atStart => exact ⟨_, _, 0, .map [], HRG.out, by have := HS1.out; omega, HBX.out, HRG.out.lt, Y1.out, Y2.out.1, Y2.out.2, agree_start D1⟩
  case round =>
    clear HBX Y1 Y2 HRG
    obtain ⟨left, cnt, m, Dout, hrg, hmc, hb, hvs, ⟨hx2, hr, hx5⟩, ho2, hom, hag⟩ := hrel
    have HRG := Lib.hid hrg
    have HB := Lib.hid hb
    have X2 := Lib.hid hx2
    have HR := Lib.hid hr
    have X5 := Lib.hid hx5
    have O2 := Lib.hid ho2
    have OM := Lib.hid hom
    have HAG := Lib.hid hag
    have HMC := Lib.hid hmc
    have HVS := Lib.hid hvs
    clear hrg hb hx2 hr hx5 ho2 hom hag hmc hvs
    go_wp2_with (first
      | (at_next; refine wpList_next_ranges_ii _ rfl _ rfl 3 3 .i64 .i64 law3 Try.underlying3 Try.underlying3 b1 V.heap.size n1 _ _ _ rfl HRG.out ?_ ?_)
      | go_in)
    · intro hc0 hl0
      have hE := agree_end HAG.out hl0 (OM.out.canon law3) (HRG.out.owns.canon law3)
      subst hE
      have HCD := Lib.hid (show CntB L1 L2 (Maps.has D2) Dout from cntB_start C1.out C2.out)
      have HM2 := Lib.hid (show m + Maps.size D2 ≤ n1 + n2 by have := HMC.out; have := HS2.out; omega)
      have k2 := (cells3 X2.out).1
      obtain ⟨wv, hwv⟩ : ∃ W, W = wr := ⟨_, rfl⟩
      subst hwv
      go_wp2_with (first
        | (at_range; refine wpList_range_own _ rfl _ 48 rfl 3 3 law3 Try.underlying48 _ b2 n2 _ rfl O2.out ?_; intro w0 hrg0 hg0 hs0)
        | go_in)
      go_frame
      have HVV := Lib.hid (show w.heap.size + 1 + 1 + 1 + 1 < wv.heap.size by have := HSV.out; have := HVS.out; omega)
      have HBX := Lib.hid (HB.out.trans ((below_none hg0).mono HB.out.size))
      have Y1 := Lib.hid (And.intro (row_past X2.out hg0 (by simp)) (And.intro (row_past HR.out hg0 (by simp)) (row_past X5.out hg0 (by simp))))
      have Y2 := Lib.hid (OM.out.kept hg0 (by simp))
      have HRG2 := Lib.hid hrg0
      clear hrg0 hg0 hs0 HB X2 HR X5 O2 OM k2 HRG HAG HMC HVS
      go_loopw [8, 9] (fun _ _ wr => ∃ (left : Lit → Bool) (cnt m' : Nat) (Dm : DataW Unit), wr.ranges Try.prog 3 (plainElem Try.prog 3) b2 wv.heap.size n2 D2 left cnt ∧ m' + cnt ≤ n1 + n2 ∧ Below w.heap.size w wr ∧
          (SBox wr (w.heap.size + 1) b2 S2 ∧ wr.heap[w.heap.size + 1 + 1]? = some (.cells #[.map none, .int .u64 0, .int .u64 0] 52) ∧ SBox wr (w.heap.size + 1 + 1 + 1 + 1) (w.heap.size + 1 + 1 + 1) S1) ∧
          wr.ownsMap Try.prog 3 (plainElem Try.prog 3) (w.heap.size + 1 + 1 + 1) m' Dm ∧ CntB L1 L2 left Dm) (fun _ _ wr => wr.rangeLeft b2 wv.heap.size)
      case atStart => exact ⟨_, _, m, Dout, HRG2.out, HM2.out, HBX.out, Y1.out, Y2.out, HCD.out⟩
      case round =>
        clear HBX Y1 Y2 HRG2 HCD HM2
        obtain ⟨left, cnt, m', Dm, hrg, hmc, hb, ⟨hx2, hr, hx5⟩, hom, hag⟩ := hrel
        have HRG := Lib.hid hrg
        have HB := Lib.hid hb
        have X2 := Lib.hid hx2
        have HR := Lib.hid hr
        have X5 := Lib.hid hx5
        have OM := Lib.hid hom
        have HAG := Lib.hid hag
        have HMC := Lib.hid hmc
        clear hrg hb hx2 hr hx5 hom hag hmc
        go_wp2_with (first
          | (at_next; refine wpList_next_ranges_ii _ rfl _ rfl 3 3 .i64 .i64 law3 Try.underlying3 Try.underlying3 b2 wv.heap.size n2 _ _ _ rfl HRG.out ?_ ?_)
          | go_in)
        · intro hc0 hl0
          have HCE := Lib.hid (cntB_end HAG.out hl0)
          obtain ⟨q0, q1, q2⟩ := cells3 X2.out
          obtain ⟨s0, s1, s2⟩ := cells3 X5.out
          obtain ⟨e1, e2⟩ := both_high S1 S2
          have E2 := Lib.hid e2
          clear e2
          go_wp2_with (first
            | ((with_reducible refine at_store_op ?_); refine wpList_store_lit 22 (w.heap.size + 1 + 1 + 1 + 1) 1 #[.map (some (w.heap.size + 1 + 1 + 1)), .int .u64 (cH (S1 + (S2 - cL S2))), .int .u64 (cL S1)] (.int .u64 (cH (S1 + (S2 - cL S2)))) X5.out szU' (Nat.le_of_ble_eq_true rfl) rfl rfl ?_ ?_ ?_; exact rfl; exact rfl; intro w1 hp1; have z2 := (cells3 (hp1.row X2.out (by omega))).2.2))
          have X5' := hp1.at'
          rw [E2.out] at X5'
          have X5'' := Lib.hid X5'
          have HR1 := Lib.hid (hp1.row HR.out (by omega))
          have HB1 := Lib.hid (hp1.below HB.out HB.out.size (by omega))
          have OM1 := Lib.hid (OM.out.kept hp1.grown (fun e => by injection e with e; omega))
          clear hp1 X5' q0 q1 q2 s0 s1 s2 e1 z2
          refine (wadd_any (w.heap.size + 1 + 1 + 1 + 1) _ (S1 + (S2 - cL S2)) (cL S2) w1 X5''.out (wf_cL S2)).mono ?_
          rintro e w2 ⟨rfl, hp⟩
          have hp' := hp
          rw [show S1 + (S2 - cL S2) + cL S2 = S1 + S2 by omega] at hp'
          have X6 := Lib.hid (show SBox w2 (w.heap.size + 1 + 1 + 1 + 1) (w.heap.size + 1 + 1 + 1) (S1 + S2) from hp'.at')
          have HR2 := Lib.hid (hp'.row HR1.out (by omega))
          have HB2 := Lib.hid (hp'.below HB1.out HB1.out.size (by omega))
          have OM2 := Lib.hid (OM1.out.kept hp'.grown (fun e => by injection e with e; omega))
          clear hp hp'
          obtain ⟨s0, s1, s2⟩ := cells3 X6.out
          go_wp2_with ((with_reducible refine at_store_op ?_); refine wpList_store_lit 52 (w.heap.size + 1 + 1) 0 #[.map (some (w.heap.size + 1 + 1 + 1)), .int .u64 (cH (S1 + S2)), .int .u64 (cL (S1 + S2))] (sumsV (w.heap.size + 1 + 1 + 1) (S1 + S2)) HR2.out szS (Nat.le_of_ble_eq_true rfl) rfl rfl ?_ ?_ ?_; exact rfl; exact rfl; intro w3 hp3)
          refine bodyPost_ret (results_cell_row Try.results30 _ _ (w.heap.size + 1 + 1) 52 _ _ _ rfl hp3.at' Try.underlying52 rfl szS) rfl ⟨w.heap.size + 1 + 1 + 1, rfl, by omega, ⟨Dm, (OM2.out.kept hp3.grown (fun e => by injection e with e; omega)).mono (by have := HMC.out; omega), HCE.out⟩, hp3.below HB2.out HB2.out.size (by omega)⟩
        · intro x c w1 cnt1 hwx hwc hlx hat hrg1 hlt hg1 hs1 hen
          have hne : ∀ q, q < wv.heap.size → some q ≠ some wv.heap.size := fun q hq e => by injection e with e; omega
          have X2' := Lib.hid (show SBox w1 (w.heap.size + 1) b2 S2 from row_past X2.out hg1 (hne _ (by have := HVV.out; omega)))
          have HR' := Lib.hid (row_past HR.out hg1 (hne _ (by have := HVV.out; omega)))
          have X5' := Lib.hid (show SBox w1 (w.heap.size + 1 + 1 + 1 + 1) (w.heap.size + 1 + 1 + 1) S1 from row_past X5.out hg1 (hne _ HVV.out))
          have OM' := Lib.hid (OM.out.kept hg1 (hne _ (by have := HVV.out; omega)))
          have HB' := Lib.hid (HB.out.grown hg1 HB.out.size (fun j hj => by injection hj with hj; have := HVV.out; omega))
          have HRG1 := Lib.hid hrg1
          have hc : c = (L2.count x : Nat) := by
            have h := hat (.lit (.int .i64 0))
            rw [C2.out.at' x] at h
            injection h with h
            injection h with _ h
            exact h.symm
          have hE2 : Maps.has D2 (.int .i64 x) = true := has_true_of_atKey hat
          have HE2 := Lib.hid hE2
          subst hc
          obtain ⟨c', hlk, hat', _⟩ := OM'.out.lookup_int law3 Try.underlying48 Try.underlying3 (zero3 w1) (keyOf_int_mk Try.underlying3 hwx)
          rw [HAG.out.at' x, if_pos hlx, show (((L1.count x : Nat) : Int) + ((0 : Nat) : Int)) = (L1.count x : Nat) by simp] at hat'
          injection hat' with hat'
          injection hat' with _ hat'
          subst hat'
          have HC1 := Lib.hid (HCC.out x)
          have cw : IntKind.i64.wrap (((L1.count x : Nat) : Int) + ((L2.count x : Nat) : Int)) = ((L1.count x : Nat) : Int) + ((L2.count x : Nat) : Int) := by have := HC1.out; have := HL.out; rw [IntKind.wrap_i64]; omega
          have HWF := Lib.hid (show (Lit.int .i64 (((L1.count x : Nat) : Int) + ((L2.count x : Nat) : Int))).wf = true by have := HC1.out; have := HL.out; simp [Lit.wf, IntKind.min, IntKind.max, IntKind.signed, IntKind.bits]; omega)
          have HMX := Lib.hid (show m' < maxLen by have := HMC.out; unfold maxLen; omega)
          have k5 := (cells3 X5'.out).1
          clear hrg1 hat hg1 hs1 hwc hE2
          go_wp2_with (first
            | (at_mapUpdate; refine wpList_mapUpdate_own _ rfl _ _ _ 48 rfl 3 3 law3 Try.underlying48 _ (w.heap.size + 1 + 1 + 1) m' _ rfl OM'.out HMX.out _ _ (.int .i64 x) rfl rfl (keyOf_int_mk Try.underlying3 hwx) _ [] (plainElem_int Try.underlying3 HWF.out) ?_; intro w2 hown2 hg2; go_frame)
            | go_in)
          have hne2 : ∀ q, q ≠ w.heap.size + 1 + 1 + 1 → some q ≠ some (w.heap.size + 1 + 1 + 1) := fun q hq e => by injection e with e; omega
          have hrg2 := HRG1.out.kept hg2 (hne2 _ (by have := HL12.out; omega)) (hne2 _ (by have := HVV.out; omega))
          go_roundw
          case rel =>
            exact ⟨_, cnt1, m' + 1, _, hrg2, by have := HMC.out; omega, HB'.out.grown hg2 HB'.out.size (fun j hj => by injection hj with hj; omega),
              ⟨row_past X2'.out hg2 (hne2 _ (by omega)), row_past HR'.out hg2 (hne2 _ (by omega)), row_past X5'.out hg2 (hne2 _ (by omega))⟩, hown2, cntB_step HAG.out C2.out OM.out.isMap x HE2.out⟩
          case measure => rw [hrg2.left_eq, HRG.out.left_eq]; exact hlt
    · intro x c w1 cnt1 hwx hwc hlx hat hrg1 hlt hg1 hs1 hen
      have hne : ∀ q, q < V.heap.size → some q ≠ some V.heap.size := fun q hq e => by injection e with e; omega
      have X2' := Lib.hid (show SBox w1 (w.heap.size + 1) b2 S2 from row_past X2.out hg1 (hne _ (by have := HSV.out; omega)))
      have HR' := Lib.hid (row_past HR.out hg1 (hne _ (by have := HSV.out; omega)))
      have X5' := Lib.hid (show SBox w1 (w.heap.size + 1 + 1 + 1 + 1) (w.heap.size + 1 + 1 + 1) S1 from row_past X5.out hg1 (hne _ HSV.out))
      have O2' := Lib.hid (O2.out.kept hg1 (hne _ (by have := HSV.out; have := HL12.out; omega)))
      have OM' := Lib.hid (OM.out.kept hg1 (hne _ (by have := HSV.out; omega)))
      have HB' := Lib.hid (HB.out.grown hg1 HB.out.size (fun j hj => by injection hj with hj; have := HSV.out; omega))
      have HRG1 := Lib.hid hrg1
      have HAT := Lib.hid hat
      have HWC := Lib.hid hwc
      have HSZ1 := Lib.hid hs1
      have HCW := Lib.hid (i64_of_wf hwc)
      obtain ⟨c', hlk, hat', _⟩ := OM'.out.lookup_int law3 Try.underlying48 Try.underlying3 (zero3 w1) (keyOf_int_mk Try.underlying3 hwx)
      have hno : Maps.has Dout (.int .i64 x) = false := by
        rw [HAG.out.1, hlx]; simp
      rw [atKey_of_not_has hno] at hat'
      injection hat' with hat'
      injection hat' with _ hat'
      subst hat'
      have cw : IntKind.i64.wrap c = c := by have := HCW.out; rw [IntKind.wrap_i64]; omega
      have cw0 : IntKind.i64.wrap (0 + c) = c := by rw [Int.zero_add]; exact cw
      have HMX := Lib.hid (show m < maxLen by have := HMC.out; unfold maxLen; omega)
      have k5 := (cells3 X5'.out).1
      clear hrg1 hat hg1 hs1 hno hwc
      go_wp2_with (first
        | (at_mapUpdate; refine wpList_mapUpdate_own _ rfl _ _ _ 48 rfl 3 3 law3 Try.underlying48 _ (w.heap.size + 1 + 1 + 1) m _ rfl OM'.out HMX.out _ _ (.int .i64 x) rfl rfl (keyOf_int_mk Try.underlying3 hwx) _ [] (plainElem_int Try.underlying3 HWC.out) ?_; intro w2 hown2 hg2; go_frame)
        | go_in)
      have hne2 : ∀ q, q ≠ w.heap.size + 1 + 1 + 1 → some q ≠ some (w.heap.size + 1 + 1 + 1) := fun q hq e => by injection e with e; omega
      have hrg2 := HRG1.out.kept hg2 (hne2 _ (by have := HL12.out; omega)) (hne2 _ (by have := HSV.out; omega))
      go_roundw
      case rel =>
        exact ⟨_, cnt1, m + 1, _, hrg2, by have := HMC.out; omega, HB'.out.grown hg2 HB'.out.size (fun j hj => by injection hj with hj; omega), by have := HVS.out; have := HSZ1.out; have := hg2.size; omega,
          ⟨row_past X2'.out hg2 (hne2 _ (by omega)), row_past HR'.out hg2 (hne2 _ (by omega)), row_past X5'.out hg2 (hne2 _ (by omega))⟩,
          O2'.out.kept hg2 (hne2 _ (by have := HL12.out; omega)), hown2, agree_step HAG.out OM.out.isMap trivial HAT.out⟩
      case measure => rw [hrg2.left_eq, HRG.out.left_eq]; exact hlt
end Go.Proofs.Ytpejcndfplbikaa
