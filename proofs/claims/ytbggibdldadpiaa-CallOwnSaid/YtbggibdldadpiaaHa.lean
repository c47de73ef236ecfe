/-
  Layer 19: comparing by a list's numbers, and the rank of a list's places.
-/
import Derived.Test.YtbggibdldadpiaaSg
import Derived.Test.YtbggibdldadpiaaGen
import Derived.WalkMore
namespace Go.Proofs.Ytbggibdldadpiaa
open Go.RowKit Go.K Go.Stab
set_option linter.unusedVariables false
set_option linter.unusedSimpArgs false
def vQ (l : List (BitVec 64)) : List Value := l.map fun x => Value.int .u64 (U64 x)
theorem vQ_length (l : List (BitVec 64)) : (vQ l).length = l.length := by unfold vQ; simp
/-- A number of a list. -/
def lq (l : List (BitVec 64)) (k : Nat) : Nat := (l.getD k 0).toNat
theorem lq_lt (l : List (BitVec 64)) (k : Nat) : lq l k < 18446744073709551616 := (l.getD k 0).isLt
theorem vQ_at {W : World} {a : Option Addr} {l : List (BitVec 64)} (h : Sl W a (vQ l)) (k : Nat) (hk : k < l.length) : ∃ b o, a = some ⟨b, o, none⟩ ∧ W.cell? ⟨b, o + k, none⟩ = some (.int .u64 (lq l k)) := by
  obtain ⟨b, o, he, hc⟩ := h (fun e => by have := congrArg List.length e; rw [vQ_length] at this; rw [this] at hk; cases hk)
  refine ⟨b, o, he, ?_⟩
  rw [hc k (by rw [vQ_length]; exact hk)]
  unfold vQ lq
  rw [List.getElem?_map, List.getElem?_eq_getElem hk, List.getD_eq_getElem?_getD, List.getElem?_eq_getElem hk]; rfl
def cmpN (x y : Nat) : Int := if x < y then -1 else if y < x then 1 else 0
theorem isnan_any (x : Nat) (w : World) : Calls Try.prog 64 #[.int .u64 x] w fun r w' => r = .returned (.bool false) ∧ w = w' := by
  have t : ((x : Int) != (x : Int)) = false := by simp
  go_enter Try.func64, Try.ntmps64
  go_wp2
  go_ret
  exact ⟨rfl, rfl⟩
theorem cmp_any (x y : Nat) (w : World) : Calls Try.prog 54 #[.int .u64 x, .int .u64 y] w fun r w' => r = .returned (.int .i64 (cmpN x y)) ∧ w = w' := by
  by_cases h1 : x < y
  · have t1 : decide ((x : Int) < (y : Int)) = true := decide_eq_true (by omega)
    have t1n : decide (x < y) = true := decide_eq_true h1
    have H := Lib.hid (show cmpN x y = -1 by unfold cmpN; rw [if_pos h1])
    clear h1
    go_enter Try.func54, Try.ntmps54
    go_wp2_with (go_at_call 64; refine (isnan_any _ _).mono ?_; rintro e w1 ⟨rfl, rfl⟩)
    go_ret
    exact ⟨by rw [H.out]; rfl, rfl⟩
  · have t1 : decide ((x : Int) < (y : Int)) = false := decide_eq_false (by omega)
    have t1n : decide (x < y) = false := decide_eq_false h1
    by_cases h2 : y < x
    · have t2 : decide ((y : Int) < (x : Int)) = true := decide_eq_true (by omega)
      have t2n : decide (y < x) = true := decide_eq_true h2
      have H := Lib.hid (show cmpN x y = 1 by unfold cmpN; rw [if_neg h1, if_pos h2])
      clear h1 h2
      go_enter Try.func54, Try.ntmps54
      go_wp2_with (go_at_call 64; refine (isnan_any _ _).mono ?_; rintro e w1 ⟨rfl, rfl⟩)
      go_ret
      exact ⟨by rw [H.out]; rfl, rfl⟩
    · have t2 : decide ((y : Int) < (x : Int)) = false := decide_eq_false (by omega)
      have t2n : decide (y < x) = false := decide_eq_false h2
      have H := Lib.hid (show cmpN x y = 0 by unfold cmpN; rw [if_neg h1, if_neg h2])
      clear h1 h2
      go_enter Try.func54, Try.ntmps54
      go_wp2_with (go_at_call 64; refine (isnan_any _ _).mono ?_; rintro e w1 ⟨rfl, rfl⟩)
      go_ret
      exact ⟨by rw [H.out]; rfl, rfl⟩
theorem cmpr_any (x y : Nat) (w : World) : Calls Try.prog 55 #[.int .u64 x, .int .u64 y] w fun r w' => r = .returned (.int .i64 (cmpN y x)) ∧ w = w' := by
  have H := Lib.hid (fun W => cmp_any y x W)
  generalize cmpN y x = z at *
  go_enter Try.func55, Try.ntmps55
  go_wp2_with (go_at_call 54; refine (H.out _).mono ?_; rintro e w1 ⟨rfl, rfl⟩)
  go_ret
  exact ⟨rfl, rfl⟩
/-- Up, or down. -/
def fid (up : Bool) : FuncId := if up then 54 else 55
def fcmp (up : Bool) : Value := .func (.func (fid up)) #[] #[]
def zU (up : Bool) (l : List (BitVec 64)) (x y : Nat) : Int := if up then cmpN (lq l x) (lq l y) else cmpN (lq l y) (lq l x)
/-- Which of two places comes ahead. -/
def TU (up : Bool) (l : List (BitVec 64)) (x y : Nat) : Prop := (if up then lq l x < lq l y else lq l y < lq l x) ∨ (lq l x = lq l y ∧ x < y)
theorem TU_trans (up : Bool) (l : List (BitVec 64)) : ∀ x y z, TU up l x y → TU up l y z → TU up l x z := by
  intro x y z
  unfold TU
  cases up <;> simp only [Bool.false_eq_true, if_true, if_false] <;> omega
theorem TU_tie (up : Bool) (l : List (BitVec 64)) (x y : Nat) (h : x < y) : (zL (zU up l) y x = true → TU up l y x) ∧ (zL (zU up l) y x = false → TU up l x y) := by
  unfold zL zU TU cmpN
  cases up
  · simp only [Bool.false_eq_true, if_false]
    by_cases h1 : lq l x < lq l y
    · rw [if_pos h1]; simp [h1]
    · rw [if_neg h1]
      by_cases h2 : lq l y < lq l x
      · rw [if_pos h2]; simp [h1, h2]
      · rw [if_neg h2]; simp [h1, h2]; omega
  · simp only [if_true]
    by_cases h1 : lq l y < lq l x
    · rw [if_pos h1]; simp [h1]
    · rw [if_neg h1]
      by_cases h2 : lq l x < lq l y
      · rw [if_pos h2]; simp [h1, h2]
      · rw [if_neg h2]; simp [h1, h2]; omega
set_option maxRecDepth 100000 in
set_option maxHeartbeats 1000000 in
theorem cmpc_any (up : Bool) (l : List (BitVec 64)) (aa : Option Addr) (cap g cb lb : Nat) (w : World) (hc : w.cell? ⟨cb, 0, none⟩ = some (fcmp up)) (hl : w.cell? ⟨lb, 0, none⟩ = some (.slice aa l.length cap)) (hs : Sl w aa (vQ l))
    (n1 : cb ≠ g) (n2 : lb ≠ g) (n3 : ∀ y, aa = some y → vQ l ≠ [] → ¬ (y.block = g)) : CmpC (zU up l) l.length g cb lb w := by
  intro V ho x y hx hy
  have k1 : V.cell? ⟨cb, 0, none⟩ = some (fcmp up) := ho.cell hc n1
  have k2 : V.cell? ⟨lb, 0, none⟩ = some (.slice aa l.length cap) := ho.cell hl n2
  have k3 : Sl V aa (vQ l) := ho.sl hs n3
  obtain ⟨b, o, rfl, z1⟩ := vQ_at k3 x hx
  obtain ⟨b2, o2, he, z2⟩ := vQ_at k3 y hy
  injection he with he
  injection he with e1 e2 e3
  rw [← e1, ← e2] at z2
  have ix : (x : Int) < (l.length : Int) := by omega
  have iy : (y : Int) < (l.length : Int) := by omega
  clear ho hc hl hs n1 n2 n3 k3 e1 e2 e3
  cases up
  case false =>
    have HZ := Lib.hid (show zU false l x y = cmpN (lq l y) (lq l x) from rfl)
    have HCM := Lib.hid (show ∀ W, Qt V W → Calls Try.prog 55 #[.int .u64 (lq l x), .int .u64 (lq l y)] W fun e w' => e = .returned (.int .i64 (zU false l x y)) ∧ Qt V w' from fun W hw => (cmpr_any (lq l x) (lq l y) W).mono fun e w' ⟨h1, h2⟩ => ⟨by rw [h1, HZ.out], by rw [← h2]; exact hw⟩)
    have k1' : V.cell? ⟨cb, 0, none⟩ = some (.func (.func 55) #[] #[]) := k1
    clear k1
    generalize zU false l x y = zz at *
    generalize lq l x = vx at *
    generalize lq l y = vy at *
    go_enter Try.func63, Try.ntmps63
    go_wp2
    refine wp_region_inv 11 (fun W => Qt V W) (by kernel_rfl) (by kernel_rfl) (fun n => ⟨n, rfl⟩) ?_
    simp only [List.take_succ_cons, List.take_zero]
    iterate 11
      apply wpInv_cons
      · rfl
      · intro Wx hw
        have q1 := (hw.cell ⟨cb, 0, none⟩).trans k1'
        have q2 := (hw.cell ⟨lb, 0, none⟩).trans k2
        have q3 := (hw.cell ⟨b, o + x, none⟩).trans z1
        have q4 := (hw.cell ⟨b, o + y, none⟩).trans z2
        go_simp
        first
          | exact ⟨hw, rfl⟩
          | (show Calls _ _ _ _ _; with_reducible exact HCM.out _ hw)
      simp only [Act.put, List.setIfInBounds_toArray, List.set_cons_zero, List.set_cons_succ]
    refine wpInv_nil fun V3 hV => ?_
    have HV := Lib.hid hV
    clear hV
    simp only [List.drop_succ_cons, List.drop_zero]
    go_wp2
    go_ret
    exact ⟨rfl, HV.out⟩
  case true =>
    have HZ := Lib.hid (show zU true l x y = cmpN (lq l x) (lq l y) from rfl)
    have HCM := Lib.hid (show ∀ W, Qt V W → Calls Try.prog 54 #[.int .u64 (lq l x), .int .u64 (lq l y)] W fun e w' => e = .returned (.int .i64 (zU true l x y)) ∧ Qt V w' from fun W hw => (cmp_any (lq l x) (lq l y) W).mono fun e w' ⟨h1, h2⟩ => ⟨by rw [h1, HZ.out], by rw [← h2]; exact hw⟩)
    have k1' : V.cell? ⟨cb, 0, none⟩ = some (.func (.func 54) #[] #[]) := k1
    clear k1
    generalize zU true l x y = zz at *
    generalize lq l x = vx at *
    generalize lq l y = vy at *
    go_enter Try.func63, Try.ntmps63
    go_wp2
    refine wp_region_inv 11 (fun W => Qt V W) (by kernel_rfl) (by kernel_rfl) (fun n => ⟨n, rfl⟩) ?_
    simp only [List.take_succ_cons, List.take_zero]
    iterate 11
      apply wpInv_cons
      · rfl
      · intro Wx hw
        have q1 := (hw.cell ⟨cb, 0, none⟩).trans k1'
        have q2 := (hw.cell ⟨lb, 0, none⟩).trans k2
        have q3 := (hw.cell ⟨b, o + x, none⟩).trans z1
        have q4 := (hw.cell ⟨b, o + y, none⟩).trans z2
        go_simp
        first
          | exact ⟨hw, rfl⟩
          | (show Calls _ _ _ _ _; with_reducible exact HCM.out _ hw)
      simp only [Act.put, List.setIfInBounds_toArray, List.set_cons_zero, List.set_cons_succ]
    refine wpInv_nil fun V3 hV => ?_
    have HV := Lib.hid hV
    clear hV
    simp only [List.drop_succ_cons, List.drop_zero]
    go_wp2
    go_ret
    exact ⟨rfl, HV.out⟩
/-- The places in rank; 0 behind them. -/
def RankZ (up : Bool) (l : List (BitVec 64)) (d : Nat → Nat) : Prop := Srt (TU up l) d 0 l.length ∧ Prm (fun k => k) d 0 l.length ∧ ∀ p, l.length ≤ p → d p = 0
theorem info_parts {P : Program} {e : TypeId} {z : Value} {s b : Nat} (h : (P.info? e).map (fun i => (i.zero, i.size, i.bytes)) = some (some z, s, b)) : ∃ i, P.info? e = some i ∧ i.zero = some z ∧ i.size = s ∧ i.bytes = b := by
  cases hi : P.info? e with
  | none => rw [hi] at h; cases h
  | some i =>
    rw [hi] at h
    injection h with h
    injection h with h1 h2
    injection h2 with h2 h3
    exact ⟨i, rfl, h1, h2, h3⟩
theorem infoI : (Try.prog.info? 3).map (fun i => (i.zero, i.size, i.bytes)) = some (some (.int .i64 0), 1, 8) := by kernel_rfl
theorem made_row (n : Nat) : madeCells (Value.int .i64 0).cells n = (rowN (fun _ => 0) n).toArray := by
  apply Array.ext
  · simp [madeCells, rowN]
  · intro i h1 h2
    simp [madeCells, rowN, Value.cells, Nat.mod_one]
theorem make24 (n : Nat) (h : n ≤ 17592186043904) (w : World) : (Instr.makeSlice 24 (.int .i64 n) (.int .i64 n)).run Try.prog w = .ok (.slice (some ⟨w.heap.size, 0, none⟩) n n) (w.alloc (.cells (rowN (fun _ => 0) n).toArray 3)) := by
  obtain ⟨i, hi, hz, hs, hb⟩ := info_parts infoI
  have := run_make (P := Try.prog) w 24 3 i (.int .i64 0) Try.underlying24 hi hz .i64 .i64 n n (by omega) (by omega) (by rw [hb]; omega) (by omega)
  rw [hs] at this
  simpa [made_row] using this
/-- The places, as far as i. -/
def idn (i k : Nat) : Nat := if k < i then k else 0
theorem idn_zero : (fun _ => 0) = idn 0 := by funext k; unfold idn; rw [if_neg (by omega)]
theorem idn_step (i : Nat) : upd (idn i) i i = idn (i + 1) := by
  funext k; unfold upd idn
  by_cases h : k = i
  · subst h; rw [if_pos rfl, if_pos (by omega)]
  · rw [if_neg h]
    by_cases h2 : k < i
    · rw [if_pos h2, if_pos (by omega)]
    · rw [if_neg h2, if_neg (by omega)]
theorem rowN_congr {c d : Nat → Nat} {n : Nat} (h : ∀ k, k < n → c k = d k) : rowN c n = rowN d n := by
  unfold rowN
  apply List.map_congr_left
  intro k hk
  rw [h k (List.mem_range.1 hk)]
theorem rankz_of {up : Bool} {l : List (BitVec 64)} {d : Nat → Nat} (hs : Srt (TU up l) d 0 l.length) (hp : Prm (idn l.length) d 0 l.length) : RankZ up l (fun p => if p < l.length then d p else 0) := by
  refine ⟨hs.congr fun k _ hk => if_pos hk, ?_, fun p hp => if_neg (by omega)⟩
  unfold Prm at *
  rw [piece_congr (c := fun p => if p < l.length then d p else 0) (d := d) fun k _ hk => if_pos hk, piece_congr (c := fun k => k) (d := idn l.length) fun k _ hk => (if_pos hk).symm]
  exact hp
set_option maxRecDepth 100000 in
set_option maxHeartbeats 1000000 in
theorem rank_any (up : Bool) (l : List (BitVec 64)) (aa : Option Addr) (cap : Nat) (w : World) (hn : l.length ≤ 17592186043904) (hs : Sl w aa (vQ l)) :
    Calls Try.prog 53 #[.slice aa l.length cap, fcmp up] w fun r w' => ∃ (g : Nat) (d : Nat → Nat), r = .returned (.slice (some ⟨g, 0, none⟩) l.length l.length) ∧ w.heap.size ≤ g ∧ Rw w' g l.length d ∧ RankZ up l d ∧ Below w.heap.size w w' := by
  have HS := Lib.hid hs
  clear hs
  have hmk := make24 l.length hn
  unfold fcmp
  generalize hfc : fid up = fc
  have HFC := Lib.hid hfc
  clear hfc
  go_enter Try.func53, Try.ntmps53
  go_upto_region 2 with fail
  obtain ⟨g, hg⟩ : ∃ g, g = w.heap.size + 1 + 1 := ⟨_, rfl⟩
  refine wp_world (fun V => Rw V g l.length (idn 0) ∧ V.cell? ⟨w.heap.size, 0, none⟩ = some (.slice aa l.length cap) ∧ V.cell? ⟨w.heap.size + 1, 0, none⟩ = some (.func (.func fc) #[] #[]) ∧ Below w.heap.size w V ∧ V.heap.size = w.heap.size + 3) ?_ ?_
  · refine ⟨?_, ?_, ?_, ?_, ?_⟩
    · rw [← idn_zero]; exact alloc_at (by rw [hg]; simp)
    · rw [cell_of_row _ _ _ _ _ _ (alloc_old (alloc_old (alloc_at rfl)))]; rfl
    · rw [cell_of_row _ _ _ _ _ _ (alloc_old (alloc_at (by simp)))]; rfl
    · exact (((Below.refl _ _).alloc (Nat.le_refl _) _).alloc (by simp) _).alloc (by simp; omega) _
    · simp
  intro V0 h0
  have H0 := Lib.hid h0
  rw [← hg]
  have HGG := Lib.hid hg
  clear h0 hmk hg
  go_wp2
  go_loopw [6, 12] (fun x6 ii V => ∃ i : Nat, i ≤ l.length ∧ ii = .int .i64 i ∧ Rw V g l.length (idn i) ∧ Only (fun x => x = g) V0 V) (fun _ ii _ => l.length - (intOf ii).toNat)
  case atStart => exact ⟨0, Nat.zero_le _, rfl, H0.out.1, Only.refl _ _⟩
  case round =>
    obtain ⟨i, hi, rfl, hm, ho⟩ := hrel
    have HM := Lib.hid hm
    have HO := Lib.hid ho
    clear hm ho
    by_cases hlt : i < l.length
    · have t0 : decide ((i : Int) < (l.length : Int)) = true := decide_eq_true (by omega)
      have t0n : decide (i < l.length) = true := decide_eq_true hlt
      have ii : (i : Int) < (l.length : Int) := by omega
      have w1 : IntKind.i64.wrap ((i : Int) + 1) = ((i + 1 : Nat) : Int) := by rw [IntKind.wrap_i64]; omega
      have HI := Lib.hid hlt
      clear hlt hi
      go_wp2_with ((with_reducible refine at_store_op ?_); refine wpList_store_lit 3 g i (rowN (idn (i + 1)) l.length).toArray (.int .i64 i) HM.out szI (by show i + 1 ≤ (rowN (idn i) l.length).toArray.size; have := HI.out; simp [rowN_len]; omega) rfl (by rw [← idn_step]; exact rowN_upd (idn i) l.length i i HI.out) ?_ ?_ ?_; exact rfl; exact rfl; intro V1 hp1; have HP1 := Lib.hid (show Rw V1 g l.length (idn (i + 1)) ∧ Only (fun x => x = g) V0 V1 from ⟨hp1.at', HO.out.trans hp1.only (fun k hk => .inl hk)⟩); clear hp1)
      go_roundw
      case rel => exact ⟨i + 1, HI.out, by go_num, HP1.out⟩
      case measure => have := HI.out; simp [intOf]; omega
    · have t0 : decide ((i : Int) < (l.length : Int)) = false := decide_eq_false (by omega)
      have t0n : decide (i < l.length) = false := decide_eq_false hlt
      have hie : i = l.length := by omega
      have hc1 : wr.cell? ⟨w.heap.size + 1, 0, none⟩ = some (fcmp up) := by
        rw [HO.out.cell H0.out.2.2.1 (by have := HGG.out; show ¬ (w.heap.size + 1 = g); omega)]; unfold fcmp; rw [HFC.out]
      have hc2 : wr.cell? ⟨w.heap.size, 0, none⟩ = some (.slice aa l.length cap) := HO.out.cell H0.out.2.1 (by have := HGG.out; show ¬ (w.heap.size = g); omega)
      have hb : Below w.heap.size w wr := H0.out.2.2.2.1.trans (HO.out.below H0.out.2.2.2.1.size (fun k hk => by have := HGG.out; omega))
      have hc3 : Sl wr aa (vQ l) := HS.out.kept hb
      have hcc := cmpc_any up l aa cap g (w.heap.size + 1) w.heap.size wr hc1 hc2 hc3 (by have := HGG.out; omega) (by have := HGG.out; omega) (fun y hy hne => by have := HS.out.lt y hy hne; have := HGG.out; omega)
      have hst := stable_any (zU up l) (TU up l) (TU_trans up l) g l.length (w.heap.size + 1) w.heap.size l.length (idn l.length) wr (by omega) (by have h := HM.out; rw [hie] at h; exact h) (fun k hk => by unfold idn; rw [if_pos hk]; exact hk) hcc (fun x y hxy hy => by
        unfold idn
        rw [if_pos (by omega : x < l.length), if_pos hy]
        exact TU_tie up l x y hxy)
      have HST := Lib.hid hst
      unfold fvc at HST
      have HB := Lib.hid hb
      clear hlt hi hie hc1 hc2 hb hc3 hcc hst
      go_wp2_with (go_at_call 62; (with_reducible refine HST.out.mono ?_); rintro e w9 ⟨rfl, ho9, d9, hd1, hd2, hd3⟩; have HD := Lib.hid (show Only (fun x => x = g) wr w9 ∧ Rw w9 g l.length d9 ∧ Srt (TU up l) d9 0 l.length ∧ Prm (idn l.length) d9 0 l.length from ⟨ho9, hd1, hd2, hd3⟩); clear ho9 hd1 hd2 hd3)
      go_ret
      refine ⟨g, _, rfl, by have := HGG.out; omega, ?_, rankz_of HD.out.2.2.1 HD.out.2.2.2, HB.out.trans (HD.out.1.below HB.out.size (fun k hk => by have := HGG.out; omega))⟩
      unfold Rw
      rw [rowN_congr (c := fun p => if p < l.length then d9 p else 0) (d := d9) fun k hk => if_pos hk]
      exact HD.out.2.1
/-- There is one rank alone. -/
theorem cnt_lt {T : Nat → Nat → Prop} (hirr : ∀ x, ¬ T x x) (htr : ∀ x y z, T x y → T y z → T x z) : ∀ (l m : List Nat), l.Perm m → l.Pairwise T → m.Pairwise T → l = m := by
  intro l m hp hl hm
  exact hp.eq_of_pairwise (fun a b _ _ h1 h2 => absurd (htr _ _ _ h1 h2) (hirr a)) hl hm
theorem TU_irr (up : Bool) (l : List (BitVec 64)) (x : Nat) : ¬ TU up l x x := by
  unfold TU; cases up <;> simp only [Bool.false_eq_true, if_true, if_false] <;> omega
theorem srt_pair {T : Nat → Nat → Prop} {d : Nat → Nat} {n : Nat} (h : Srt T d 0 n) : (Stab.piece d 0 n).Pairwise T := by
  unfold Stab.piece
  rw [List.pairwise_map]
  refine List.Pairwise.imp_of_mem (R := fun a b => a < b) (fun {a b} ha hb hab => ?_) (by simpa using List.pairwise_lt_range' )
  rw [List.mem_range'_1] at ha hb
  exact h a b (by omega) hab (by omega)
theorem rankz_unique {up : Bool} {l : List (BitVec 64)} {d e : Nat → Nat} (h1 : RankZ up l d) (h2 : RankZ up l e) : d = e := by
  have hp : (Stab.piece d 0 l.length).Perm (Stab.piece e 0 l.length) := List.Perm.trans h1.2.1 (List.Perm.symm h2.2.1)
  have he := cnt_lt (TU_irr up l) (TU_trans up l) _ _ hp (srt_pair h1.1) (srt_pair h2.1)
  funext p
  by_cases hpl : p < l.length
  · unfold Stab.piece at he
    rw [List.map_inj_left] at he
    exact he p (by rw [List.mem_range'_1]; omega)
  · rw [h1.2.2 p (by omega), h2.2.2 p (by omega)]
end Go.Proofs.Ytbggibdldadpiaa
