/-
  Layer 1: Shares, walked.
-/
import Derived.Test.YtdkfaicmdbhonaaPz
import Derived.Test.YtdkfaicmdbhonaaWw
import Derived.Test.YtdkfaicmdbhonaaWg
import Derived.Deep.RegionHeld3
namespace Go.Proofs.Ytdkfaicmdbhonaa
open Go.RowKit Go.K
open Go.Stab (swp rot Srt Prm Out)
set_option linter.unusedVariables false
set_option linter.unusedSimpArgs false
theorem info_parts {P : Program} {e : TypeId} {z : Value} {s b : Nat} (h : (P.info? e).map (fun i => (i.zero, i.size, i.bytes)) = some (some z, s, b)) : ∃ i, P.info? e = some i ∧ i.zero = some z ∧ i.size = s ∧ i.bytes = b := by
  cases hi : P.info? e with
  | none => rw [hi] at h; cases h
  | some i =>
    rw [hi] at h
    injection h with h
    injection h with h1 h2
    injection h2 with h2 h3
    exact ⟨i, rfl, h1, h2, h3⟩
theorem infoI : (Try.prog.info? 3).map (fun i => (i.zero, i.size, i.bytes)) = some (some (.int .i64 0), 1, 8) := by kernel_rfl
theorem szQ : (Try.prog.info? 24).map (·.size) = some 1 := by kernel_rfl
theorem sz22 : (Try.prog.info? 22).map (·.size) = some 1 := by kernel_rfl
theorem sz84 : (Try.prog.info? 84).map (·.size) = some 1 := by kernel_rfl
theorem made_rowN (n : Nat) : madeCells (Value.int .i64 0).cells n = (rowN (fun _ => 0) n).toArray := by
  apply Array.ext
  · simp [madeCells, rowN]
  · intro i h1 h2
    simp [madeCells, rowN, Value.cells, Nat.mod_one]
theorem made_rowQ (n : Nat) : madeCells (Value.int .u64 0).cells n = (rowQ (fun _ => 0) n).toArray := by
  apply Array.ext
  · simp [madeCells, rowQ]
  · intro i h1 h2
    simp [madeCells, rowQ, Value.cells, Nat.mod_one]
theorem make84 (n : Nat) (h : n ≤ 17592186043904) (w : World) : (Instr.makeSlice 84 (.int .i64 n) (.int .i64 n)).run Try.prog w = .ok (.slice (some ⟨w.heap.size, 0, none⟩) n n) (w.alloc (.cells (rowN (fun _ => 0) n).toArray 3)) := by
  obtain ⟨i, hi, hz, hs, hb⟩ := info_parts infoI
  have := run_make (P := Try.prog) w 84 3 i (.int .i64 0) Try.underlying84 hi hz .i64 .i64 n n (by omega) (by omega) (by rw [hb]; omega) (by omega)
  rw [hs] at this
  simpa [made_rowN] using this
theorem make22 (n : Nat) (h : n ≤ 17592186043904) (w : World) : (Instr.makeSlice 22 (.int .i64 n) (.int .i64 n)).run Try.prog w = .ok (.slice (some ⟨w.heap.size, 0, none⟩) n n) (w.alloc (.cells (rowQ (fun _ => 0) n).toArray 24)) := by
  obtain ⟨i, hi, hz, hs, hb⟩ := info_parts Try.info24
  have := run_make (P := Try.prog) w 22 24 i (.int .u64 0) Try.underlying22 hi hz .i64 .i64 n n (by omega) (by omega) (by rw [hb]; omega) (by omega)
  rw [hs] at this
  simpa [made_rowQ] using this
theorem rowQ_set (c : Nat → Nat) (n k v : Nat) (hk : k < n) : (rowQ c n).toArray.setIfInBounds k (Value.int .u64 (v : Int)) = (rowQ (upd c k v) n).toArray := by
  apply Array.ext
  · simp [rowQ]
  · intro i h1 h2
    rw [Array.getElem_setIfInBounds (by simpa [rowQ] using h1)]
    simp [rowQ, upd]
    by_cases e : k = i
    · rw [if_pos e, if_pos e.symm]
    · rw [if_neg e, if_neg (fun h => e h.symm)]
theorem Rq.set {W : World} {g n : Nat} {c : Nat → Nat} (h : Rq W g n c) (k v : Nat) (hk : k < n) : Rq (W.setCell ⟨g, k, none⟩ (.int .u64 (v : Int))) g n (upd c k v) := by
  have h1 : (W.setCell ⟨g, k, none⟩ (.int .u64 (v : Int))).heap[g]? = some (.cells ((rowQ c n).toArray.setIfInBounds k (.int .u64 (v : Int))) 24) := heap_setCell_same _ _ _ _ _ _ h
  rw [rowQ_set c n k v hk] at h1; exact h1
theorem Rw.set {W : World} {g n : Nat} {c : Nat → Nat} (h : Rw W g n c) (k v : Nat) (hk : k < n) : Rw (W.setCell ⟨g, k, none⟩ (.int .i64 (v : Int))) g n (upd c k v) := by
  have h1 : (W.setCell ⟨g, k, none⟩ (.int .i64 (v : Int))).heap[g]? = some (.cells ((rowN c n).toArray.setIfInBounds k (.int .i64 (v : Int))) 3) := heap_setCell_same _ _ _ _ _ _ h
  rw [rowN_set c n k v hk] at h1; exact h1
theorem only_set (W : World) (g k : Nat) (v : Value) : Only (fun x => x = g) W (W.setCell ⟨g, k, none⟩ v) := Only.of_grown (S := fun x => x = g) (grown_set (grown_refl W (some g)) k v) (fun x hx => by injection hx with e; exact e.symm)
/-- What stands while the parts are laid. -/
structure ShI (t : Nat) (l : List (BitVec 64)) (gq gr br go bo i : Nat) (w V : World) : Prop where
  q : Rq V gq l.length (cutQ (qV t l) i)
  r : Rq V gr l.length (cutQ (rV t l) i)
  o : Rw V go l.length (idn i)
  b1 : V.heap[br]? = some (.cells #[.slice (some ⟨gr, 0, none⟩) l.length l.length] 22)
  b2 : V.heap[bo]? = some (.cells #[.slice (some ⟨go, 0, none⟩) l.length l.length] 84)
  bel : Below w.heap.size w V
theorem ShI.kept {t : Nat} {l : List (BitVec 64)} {gq gr br go bo i : Nat} {w V V' : World} (h : ShI t l gq gr br go bo i w V) (hb : Below V.heap.size V V') : ShI t l gq gr br go bo i w V' :=
  ⟨h.q.kept hb, h.r.kept hb, h.o.kept hb, row_kept h.b1 hb, row_kept h.b2 hb, h.bel.trans (hb.mono h.bel.size)⟩
theorem ShI.cells {t : Nat} {l : List (BitVec 64)} {gq gr br go bo i : Nat} {w V : World} (h : ShI t l gq gr br go bo i w V) : V.cell? ⟨br, 0, none⟩ = some (.slice (some ⟨gr, 0, none⟩) l.length l.length) ∧ V.cell? ⟨bo, 0, none⟩ = some (.slice (some ⟨go, 0, none⟩) l.length l.length) := by
  constructor
  · rw [cell_of_row _ _ _ _ _ _ h.b1]; rfl
  · rw [cell_of_row _ _ _ _ _ _ h.b2]; rfl
/-- What Shares answers. -/
def ShA (t : Nat) (l : List (BitVec 64)) (B : Nat) (W : World) (v : Value) : Prop :=
  (okS l ∧ ∃ g, v = .tuple #[.slice (some ⟨g, 0, none⟩) l.length l.length, .int .i64 0] ∧ B ≤ g ∧ Rq W g l.length (shV t l)) ∨ (¬ okS l ∧ v = .tuple #[.slice none 0 0, .int .i64 (errS l)])
set_option maxRecDepth 100000 in
set_option maxHeartbeats 4000000 in
theorem shares_any (t : BitVec 64) (l : List (BitVec 64)) (a : Option Addr) (cap : Nat) (w : World) (hl : l.length ≤ 17592186043904) (hs : Sl w a (vQ l)) :
    Calls Try.prog 34 #[.int .u64 (U64 t), .slice a l.length cap] w fun r w' => ∃ v, r = .returned v ∧ ShA t.toNat l w.heap.size w' v ∧ Below w.heap.size w w' := by
  have HS := Lib.hid hs
  have HSU := Lib.hid (csum_any a cap l w (by unfold maxLen; omega) hs)
  have HLL := Lib.hid hl
  clear hs
  by_cases n0 : l.length = 0
  · have t0 : ((l.length : Int) == 0) = true := by rw [beq_iff_eq]; omega
    have HA := Lib.hid (show ∀ W, ShA t.toNat l w.heap.size W (.tuple #[.slice none 0 0, .int .i64 2]) from fun W => .inr ⟨fun h => by have := h.1; omega, by unfold errS; rw [if_pos (.inl n0)]⟩)
    clear n0 hl
    go_enter Try.func34, Try.ntmps34
    go_wp2
    go_ret2
    exact ⟨_, rfl, HA.out _, Below.refl _ _⟩
  have t0 : ((l.length : Int) == 0) = false := by rw [beq_eq_false_iff_ne]; omega
  by_cases n1 : 1024 < l.length
  · have t1 : decide (1024 < (l.length : Int)) = true := decide_eq_true (by omega)
    have HA := Lib.hid (show ∀ W, ShA t.toNat l w.heap.size W (.tuple #[.slice none 0 0, .int .i64 2]) from fun W => .inr ⟨fun h => by have := h.2.1; omega, by unfold errS; rw [if_pos (.inr n1)]⟩)
    clear n0 n1 hl
    go_enter Try.func34, Try.ntmps34
    go_wp2
    go_ret2
    exact ⟨_, rfl, HA.out _, Below.refl _ _⟩
  have t1 : decide (1024 < (l.length : Int)) = false := decide_eq_false (by omega)
  by_cases n2 : 18446744073709551616 ≤ sumL l
  · have HF := Lib.hid (show fitV (sumL l : Nat) = .tuple #[.int .u64 0, .int .i64 10] from fitV_no (by unfold fits; omega))
    rw [HF.out] at HSU
    have HA := Lib.hid (show ∀ W, ShA t.toNat l w.heap.size W (.tuple #[.slice none 0 0, .int .i64 10]) from fun W => .inr ⟨fun h => by have := h.2.2.2; omega, by unfold errS; rw [if_neg (by omega), if_pos n2]⟩)
    clear n0 n1 n2 hl
    go_enter Try.func34, Try.ntmps34
    go_wp2_with fail
    refine HSU.out.mono ?_
    rintro e w1 ⟨rfl, rfl⟩
    go_wp2
    go_ret2
    exact ⟨_, rfl, HA.out _, Below.refl _ _⟩
  obtain ⟨S, hS⟩ : ∃ S : BitVec 64, S = BitVec.ofNat 64 (sumL l) := ⟨_, rfl⟩
  have hSn : S.toNat = sumL l := by rw [hS, BitVec.toNat_ofNat, Nat.mod_eq_of_lt (by omega)]
  have HF := Lib.hid (show fitV (sumL l : Nat) = .tuple #[.int .u64 (U64 S), .int .i64 0] by rw [fitV_yes (by unfold fits; omega), hS]; rfl)
  rw [HF.out] at HSU
  by_cases n3 : sumL l = 0
  · have t3 : (U64 S == 0) = true := by unfold U64; rw [hSn, n3]; rfl
    have HA := Lib.hid (show ∀ W, ShA t.toNat l w.heap.size W (.tuple #[.slice none 0 0, .int .i64 2]) from fun W => .inr ⟨fun h => by have := h.2.2.1; omega, by unfold errS; rw [if_neg (by omega), if_neg n2]⟩)
    clear n0 n1 n2 n3 hl hS hSn
    go_enter Try.func34, Try.ntmps34
    go_wp2_with fail
    refine HSU.out.mono ?_
    rintro e w1 ⟨rfl, rfl⟩
    go_wp2
    go_ret2
    exact ⟨_, rfl, HA.out _, Below.refl _ _⟩
  have t3 : (U64 S == 0) = false := by unfold U64; rw [beq_eq_false_iff_ne]; omega
  have HOK := Lib.hid (show okS l from ⟨by omega, by omega, by omega, by omega⟩)
  have HSN := Lib.hid hSn
  have mk1 := make22 l.length hl
  have mk2 := make84 l.length hl
  obtain ⟨tn, htn⟩ : ∃ tn, tn = t.toNat := ⟨_, rfl⟩
  have HTN := Lib.hid (show tn < 18446744073709551616 by rw [htn]; exact t.isLt)
  have hut : U64 t = (tn : Int) := by rw [htn]; rfl
  have HSC := Lib.hid (fun (i : Nat) V => show Calls Try.prog 31 #[.int .u64 (tn : Nat), .int .u64 (wq l i : Nat), .int .u64 (U64 S)] V fun e w' => e = .returned (overV (tn * wq l i) (sumL l)) ∧ Below V.heap.size V w' by
    have h := scale_any t (l.getD i 0) S V
    rw [hut, hSn, ← htn] at h
    exact h)
  rw [← htn, hut]
  clear n0 n1 n2 n3 hl hS hSn htn hut
  go_enter Try.func34, Try.ntmps34
  go_wp2_with fail
  refine HSU.out.mono ?_
  rintro e w1 ⟨rfl, rfl⟩
  go_upto_region 11 with fail
  obtain ⟨gq, hgq⟩ : ∃ g, g = w.heap.size := ⟨_, rfl⟩
  obtain ⟨gr, hgr⟩ : ∃ g, g = w.heap.size + 1 := ⟨_, rfl⟩
  obtain ⟨br, hbr⟩ : ∃ g, g = w.heap.size + 1 + 1 := ⟨_, rfl⟩
  obtain ⟨go, hgo⟩ : ∃ g, g = w.heap.size + 1 + 1 + 1 := ⟨_, rfl⟩
  obtain ⟨bo, hbo⟩ : ∃ g, g = w.heap.size + 1 + 1 + 1 + 1 := ⟨_, rfl⟩
  have z0 : (fun _ : Nat => 0) = cutQ (qV tn l) 0 := by funext k; unfold cutQ; rw [if_neg (by omega)]
  have z1 : (fun _ : Nat => 0) = cutQ (rV tn l) 0 := by funext k; unfold cutQ; rw [if_neg (by omega)]
  have z2 : (fun _ : Nat => 0) = idn 0 := by funext k; unfold idn; rw [if_neg (by omega)]
  rw [← hbo, ← hgo, ← hbr, ← hgr, ← hgq]
  refine wp_world (fun V => ShI tn l gq gr br go bo 0 w V) ?_ ?_
  · refine ⟨?_, ?_, ?_, ?_, ?_, ?_⟩
    · show Rq _ _ _ _
      unfold Rq; rw [← z0]
      exact alloc_old (alloc_old (alloc_old (alloc_old (alloc_at hgq))))
    · unfold Rq; rw [← z1]
      exact alloc_old (alloc_old (alloc_old (alloc_at (by simp [hgr]))))
    · unfold Rw; rw [← z2]
      exact alloc_old (alloc_at (by simp [hgo]))
    · exact alloc_old (alloc_old (alloc_at (by simp [hbr])))
    · exact alloc_at (by simp [hbo])
    · exact (((((Below.refl _ _).alloc (Nat.le_refl _) _).alloc (by simp) _).alloc (by simp; omega) _).alloc (by simp; omega) _).alloc (by simp; omega) _
  intro V0 h0
  have H0 := Lib.hid h0
  have HGE := Lib.hid (show gq = w.heap.size ∧ gr = gq + 1 ∧ br = gq + 2 ∧ go = gq + 3 ∧ bo = gq + 4 by omega)
  have ne1 : gq ≠ br := by omega
  have ne2 : gr ≠ br := by omega
  clear h0 hgq hgr hbr hgo hbo z0 z1 z2 mk1 mk2
  have HQS := Lib.hid (show ∀ i, i ≤ l.length → sumN (qV tn l) i ≤ tn from fun i hi => Nat.le_trans (sumN_mono _ hi) (q_le HOK.out.2.2.1))
  go_wp2
  go_loopw [11, 45] (fun x11 x45 V => ∃ i : Nat, i ≤ l.length ∧ x11 = .int .u64 ((tn - sumN (qV tn l) i : Nat) : Int) ∧ x45 = .int .i64 i ∧ ShI tn l gq gr br go bo i w V) (fun _ x45 _ => l.length - (intOf x45).toNat)
  case atStart => exact ⟨0, Nat.zero_le _, rfl, rfl, H0.out⟩
  case round =>
    obtain ⟨i, hi, rfl, rfl, hv⟩ := hrel
    have HV := Lib.hid hv
    clear hv H0
    by_cases hlt : i < l.length
    · have t5 : decide ((i : Int) < (l.length : Int)) = true := decide_eq_true (by omega)
      have t5n : decide (i < l.length) = true := decide_eq_true hlt
      have i1 : (i : Int) < (l.length : Int) := by omega
      obtain ⟨ab, ao, hab, hc⟩ := (HS.out.kept HV.out.bel) (vQ_ne hlt)
      subst hab
      have y1 := hc i (by rw [vQ_length]; exact hlt)
      rw [vQ_get l i hlt, show U64 l[i] = ((wq l i : Nat) : Int) by rw [wq_get l i hlt]; rfl] at y1
      obtain ⟨q, hq⟩ : ∃ q, q = qV tn l i := ⟨_, rfl⟩
      obtain ⟨r, hr⟩ : ∃ r, r = rV tn l i := ⟨_, rfl⟩
      obtain ⟨sq, hsq⟩ : ∃ sq, sq = sumN (qV tn l) i := ⟨_, rfl⟩
      have hs1 : sumN (qV tn l) (i + 1) = sq + q := by simp only [sumN]; rw [hsq, hq]
      have hb1 := HQS.out (i + 1) (by omega)
      have HOV := Lib.hid (show overV (tn * wq l i) (sumL l) = .tuple #[.int .u64 (q : Int), .int .u64 (r : Int), .int .i64 0] by
        unfold overV
        rw [if_neg (by have := HOK.out.2.2.1; omega)]
        have : tn * wq l i / sumL l = q := hq.symm
        rw [this, if_pos (by have := HTN.out; omega)]
        have : tn * wq l i % sumL l = r := hr.symm
        rw [this])
      have HSC2 := Lib.hid (fun V => HSC.out i V)
      rw [HOV.out] at HSC2
      have HI := Lib.hid hlt
      have u1 : IntKind.u64.wrap (((tn - sq : Nat) : Int) - (q : Int)) = ((tn - (sq + q) : Nat) : Int) := by rw [IntKind.wrap_u64]; have := HTN.out; omega
      have u2 : IntKind.i64.wrap ((i : Int) + 1) = ((i + 1 : Nat) : Int) := by rw [IntKind.wrap_i64]; have := HLL.out; omega
      have HQR := Lib.hid (show q = qV tn l i ∧ r = rV tn l i ∧ sumN (qV tn l) (i + 1) = sq + q from ⟨hq, hr, hs1⟩)
      rw [← hsq]
      obtain ⟨l1, hl1⟩ : ∃ l1, l1 = tn - sq := ⟨_, rfl⟩
      obtain ⟨l2, hl2⟩ : ∃ l2, l2 = tn - (sq + q) := ⟨_, rfl⟩
      rw [← hl1, ← hl2] at u1
      rw [← hl1]
      have HL2 := Lib.hid hl2
      clear hc hq hr hsq hs1 hb1 hlt hi hl1 hl2
      generalize wq l i = wv at *
      obtain ⟨x1, x2⟩ := HV.out.cells
      go_upto_region 15 with fail
      have hD := HV.out.kept (show Below wr.heap.size wr wr.drew from (Qt.drewN wr 1).below _)
      go_region_held3 (fun V => V.cell? ⟨br, 0, none⟩ = some (.slice (some ⟨gr, 0, none⟩) l.length l.length)) (go_keep)
        ((go_at_call 31; (with_reducible refine (HSC2.out _).mono ?_); rintro e y1 ⟨rfl, hb1⟩; have hA1 := hD.kept hb1; have p1 := hA1.cells.1; have f1 := hA1.q.cell i HI.out; have f2 := frozen_of_row _ _ i _ _ hA1.q; have hA2r : Rq (y1.setCell ⟨gq, i, none⟩ (.int .u64 (q : Int))) gr l.length (cutQ (rV tn l) i) := (only_set y1 gq i (.int .u64 (q : Int))).row hA1.r (by have := HGE.out; show ¬ (gr = gq); omega); have f3 := hA2r.cell i HI.out; have f4 := frozen_of_row _ _ i _ _ hA2r))
      obtain ⟨W4, hW4⟩ : ∃ W4, W4 = (y1.setCell ⟨gq, i, none⟩ (.int .u64 (q : Int))).setCell ⟨gr, i, none⟩ (.int .u64 (r : Int)) := ⟨_, rfl⟩
      rw [← hW4]
      have hO4 : Only (fun x => x = gq ∨ x = gr) y1 W4 := by rw [hW4]; exact ((only_set y1 gq i _).mono (fun k hk => .inl hk)).trans ((only_set _ gr i _).mono (fun k hk => .inr hk)) (fun k hk => .inl hk)
      have hq4 : Rq W4 gq l.length (cutQ (qV tn l) (i + 1)) := by
        have h1 := hA1.q.set i q HI.out
        rw [HQR.out.1, cutQ_step, ← HQR.out.1] at h1
        rw [hW4]; exact (only_set _ gr i (.int .u64 (r : Int))).row h1 (by have := HGE.out; show ¬ (gq = gr); omega)
      have hr4 : Rq W4 gr l.length (cutQ (rV tn l) (i + 1)) := by
        have h1 := hA2r.set i r HI.out
        rw [HQR.out.2.1, cutQ_step, ← HQR.out.2.1] at h1
        rw [hW4]; exact h1
      have H4 := Lib.hid (show Rq W4 gq l.length (cutQ (qV tn l) (i + 1)) ∧ Rq W4 gr l.length (cutQ (rV tn l) (i + 1)) ∧ Rw W4 go l.length (idn i) ∧ W4.heap[br]? = some (.cells #[.slice (some ⟨gr, 0, none⟩) l.length l.length] 22) ∧ W4.heap[bo]? = some (.cells #[.slice (some ⟨go, 0, none⟩) l.length l.length] 84) ∧ Below w.heap.size w W4 from
        ⟨hq4, hr4, hO4.row hA1.o (by have := HGE.out; omega), hO4.row hA1.b1 (by have := HGE.out; omega), hO4.row hA1.b2 (by have := HGE.out; omega), hA1.bel.trans (hO4.below hA1.bel.size (fun k hk => by have := HGE.out; omega))⟩)
      have z4 := H4.out.1.cell i HI.out
      rw [show cutQ (qV tn l) (i + 1) i = q by unfold cutQ; rw [if_pos (by omega), HQR.out.1]] at z4
      have z5 : W4.cell? ⟨bo, 0, none⟩ = some (.slice (some ⟨go, 0, none⟩) l.length l.length) := by rw [cell_of_row _ _ _ _ _ _ H4.out.2.2.2.2.1]; rfl
      clear hW4 hO4 hq4 hr4 hA1 hA2r hD p1 f1 f2 f3 f4 hb1 x1 x2
      go_wp2_with ((with_reducible refine at_store_op ?_); refine wpList_store_lit 3 go i (rowN (idn (i + 1)) l.length).toArray (.int .i64 i) H4.out.2.2.1 szI (by show i + 1 ≤ (rowN (idn i) l.length).toArray.size; have := HI.out; simp [rowN_len]; omega) rfl (by rw [← idn_step]; exact rowN_upd (idn i) l.length i i HI.out) ?_ ?_ ?_; exact rfl; exact rfl; intro V1 hp1; have HP1 := Lib.hid (show ShI tn l gq gr br go bo (i + 1) w V1 from ⟨hp1.row H4.out.1 (by have := HGE.out; omega), hp1.row H4.out.2.1 (by have := HGE.out; omega), hp1.at', hp1.row H4.out.2.2.2.1 (by have := HGE.out; omega), hp1.row H4.out.2.2.2.2.1 (by have := HGE.out; omega), hp1.below H4.out.2.2.2.2.2 H4.out.2.2.2.2.2.size (by have := HGE.out; omega)⟩); clear hp1)
      go_roundw
      case rel => exact ⟨i + 1, HI.out, by rw [HQR.out.2.2, ← HL2.out], by go_num, HP1.out⟩
      case measure => have := HI.out; simp [intOf]; omega
    · have t5 : decide ((i : Int) < (l.length : Int)) = false := decide_eq_false (by omega)
      have t5n : decide (i < l.length) = false := decide_eq_false hlt
      have hie : i = l.length := by omega
      have HE := Lib.hid (show ShI tn l gq gr br go bo l.length w wr by rw [← hie]; exact HV.out)
      have HLV := Lib.hid (show tn - sumN (qV tn l) i = leftV tn l by rw [hie]; rfl)
      rw [HLV.out]
      clear hlt hi hie HV HSC HSU HF
      have hrq : Rq wr gr l.length (rV tn l) := by
        have h := HE.out.r
        unfold Rq at h ⊢
        rw [rowQ_congr (c := cutQ (rV tn l) l.length) (d := rV tn l) fun k hk => if_pos hk] at h
        exact h
      have hqq : Rq wr gq l.length (shJ tn l 0) := by
        have h := HE.out.q
        unfold Rq at h ⊢
        rw [rowQ_congr (c := cutQ (qV tn l) l.length) (d := shJ tn l 0) fun k hk => by rw [shJ_zero]; exact if_pos hk] at h
        exact h
      obtain ⟨x1, x2⟩ := HE.out.cells
      have K59 := Lib.hid (slicest_any (moreL (rV tn l)) (Tm (rV tn l)) (Tm_trans _) go l.length br bo l.length (idn l.length) wr (by have := HOK.out.1; omega) (by have := HLL.out; omega) HE.out.o (fun k hk => by unfold idn; rw [if_pos hk]; exact hk)
        (less_any (rV tn l) go gr br bo l.length wr x1 x2 hrq (by have := HGE.out; omega) (by have := HGE.out; omega) (by have := HGE.out; omega))
        (fun x y hxy hy => by
          unfold idn
          rw [if_pos (by omega : x < l.length), if_pos hy]
          exact Tm_tie _ x y hxy))
      have HQQ := Lib.hid hqq
      clear hrq hqq
      go_wp2_with (go_at_call 59; (with_reducible refine K59.out.mono ?_); rintro e w9 ⟨rfl, ho9, d, hd1, hd2, hd3⟩; have HO9 := Lib.hid ho9; have HD9 := Lib.hid (show Rw w9 go l.length d ∧ RankM (rV tn l) l.length d from ⟨hd1, rankm_of hd2 hd3⟩); clear ho9 hd1 hd2 hd3)
      clear x1 x2 K59
      have H9 := Lib.hid (show Rq w9 gq l.length (shJ tn l 0) ∧ Rw w9 go l.length d ∧ w9.heap[bo]? = some (.cells #[.slice (some ⟨go, 0, none⟩) l.length l.length] 84) ∧ Below w.heap.size w w9 from
        ⟨HO9.out.row HQQ.out (by have := HGE.out; show ¬ (gq = go); omega), HD9.out.1, HO9.out.row HE.out.b2 (by have := HGE.out; show ¬ (bo = go); omega), HE.out.bel.trans (HO9.out.below HE.out.bel.size (fun k hk => by have := HGE.out; omega))⟩)
      have HLE := Lib.hid (left_lt (t := tn) HOK.out.2.2.1 HOK.out.1)
      go_loopw [80] (fun x80 V => ∃ j : Nat, j ≤ leftV tn l ∧ x80 = .int .u64 j ∧ Rq V gq l.length (shJ tn l j) ∧ Rw V go l.length d ∧ V.heap[bo]? = some (.cells #[.slice (some ⟨go, 0, none⟩) l.length l.length] 84) ∧ Below w.heap.size w V) (fun x80 _ => leftV tn l - (intOf x80).toNat)
      case atStart => exact ⟨0, Nat.zero_le _, rfl, H9.out⟩
      case round =>
        obtain ⟨j, hj, rfl, hr1, hr2, hr3, hr4⟩ := hrel
        have HJ := Lib.hid (show Rq wr gq l.length (shJ tn l j) ∧ Rw wr go l.length d ∧ wr.heap[bo]? = some (.cells #[.slice (some ⟨go, 0, none⟩) l.length l.length] 84) ∧ Below w.heap.size w wr from ⟨hr1, hr2, hr3, hr4⟩)
        clear hr1 hr2 hr3 hr4 H9
        by_cases hlt : j < leftV tn l
        · have hjn : j < l.length := by have := HLE.out; omega
          have hdn := rankm_lt HD9.out.2 hjn
          have HQ1 := Lib.hid (show qV tn l (d j) + 1 ≤ tn by have := q_small (t := tn) HOK.out.2.2.1 hdn; omega)
          have z1 := HJ.out.2.1.cell j hjn
          have z2 := HJ.out.1.cell (d j) hdn
          rw [shJ_at HD9.out.2 j hjn] at z2
          have z3 := frozen_of_row _ _ (d j) _ _ HJ.out.1
          have z4 : wr.cell? ⟨bo, 0, none⟩ = some (.slice (some ⟨go, 0, none⟩) l.length l.length) := by rw [cell_of_row _ _ _ _ _ _ HJ.out.2.2.1]; rfl
          have hst := HJ.out.1.set (d j) (qV tn l (d j) + 1) hdn
          have HST := Lib.hid (show Rq (wr.setCell ⟨gq, d j, none⟩ (.int .u64 ((qV tn l (d j) + 1 : Nat) : Int))) gq l.length (shJ tn l (j + 1)) by
            unfold Rq at hst ⊢
            rw [rowQ_congr (c := upd (shJ tn l j) (d j) (qV tn l (d j) + 1)) (d := shJ tn l (j + 1)) fun k hk => shJ_step HD9.out.2 j hjn k hk] at hst
            exact hst)
          have HSO := Lib.hid (only_set wr gq (d j) (.int .u64 ((qV tn l (d j) + 1 : Nat) : Int)))
          have t6 : decide ((j : Int) < ((leftV tn l : Nat) : Int)) = true := decide_eq_true (by omega)
          have t6n : decide (j < leftV tn l) = true := decide_eq_true hlt
          have i1 : (j : Int) < (l.length : Int) := by omega
          have i2 : (d j : Int) < (l.length : Int) := by omega
          have w2 : IntKind.u64.wrap ((j : Int) + 1) = ((j + 1 : Nat) : Int) := by rw [IntKind.wrap_u64]; have := HLL.out; omega
          have HI := Lib.hid hlt
          obtain ⟨qd, hqd⟩ : ∃ qd, qd = qV tn l (d j) := ⟨_, rfl⟩
          rw [← hqd] at z2 HST HSO HQ1
          have w1 : IntKind.u64.wrap ((qd : Int) + 1) = ((qd + 1 : Nat) : Int) := by rw [IntKind.wrap_u64]; have := HQ1.out; have := HTN.out; omega
          clear hst hlt hj hjn hdn hqd
          generalize d j = dj at *
          generalize leftV tn l = lv at *
          go_wp2
          go_roundw
          case rel => exact ⟨j + 1, HI.out, by go_num, HST.out, HSO.out.row HJ.out.2.1 (by have := HGE.out; show ¬ (go = gq); omega), HSO.out.row HJ.out.2.2.1 (by have := HGE.out; show ¬ (bo = gq); omega), HJ.out.2.2.2.trans (HSO.out.below HJ.out.2.2.2.size (fun k hk => by have := HGE.out; omega))⟩
          case measure => have := HI.out; simp [intOf]; omega
        · have t6 : decide ((j : Int) < ((leftV tn l : Nat) : Int)) = false := decide_eq_false (by omega)
          have t6n : decide (j < leftV tn l) = false := decide_eq_false hlt
          have HF := Lib.hid (show Rq wr gq l.length (shV tn l) by have h := HJ.out.1; rw [show j = leftV tn l by omega] at h; exact h)
          clear hlt hj
          go_wp2
          go_ret2
          exact ⟨_, rfl, .inl ⟨HOK.out, gq, rfl, by have := HGE.out; omega, HF.out⟩, HJ.out.2.2.2⟩
end Go.Proofs.Ytdkfaicmdbhonaa
