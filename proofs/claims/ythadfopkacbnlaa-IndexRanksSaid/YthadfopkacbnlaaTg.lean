/-
  Layer 18: the rank.
-/
import Derived.Test.YthadfopkacbnlaaTh
import Derived.Test.YthadfopkacbnlaaTi
import Derived.Deep.WholeRow
namespace Go.Proofs.Ythadfopkacbnlaa
open Go.RowKit Go.K Stab
set_option linter.unusedVariables false
set_option linter.unusedSimpArgs false
attribute [local go_sem] run_store_float
def ixL (L : Nat → Ln) : List Value := (List.range 336).map fun k => (L (k / 21)).cell (k % 21)
def lnL (x : Ln) : List Value := (List.range 21).map fun j => x.cell j
theorem ixL_len (L : Nat → Ln) : (ixL L).length = 336 := by unfold ixL; simp
theorem lnL_len (x : Ln) : (lnL x).length = 21 := by unfold lnL; simp
theorem Ix.range {W : World} {g : Nat} {L : Nat → Ln} (h : Ix W g L) : W.rangeAt g 0 (ixL L) := by
  intro j v hv
  have hj : j < 336 := by rw [← ixL_len L]; exact (List.getElem?_eq_some_iff.1 hv).1
  have e : (ixL L)[j]? = some ((L (j / 21)).cell (j % 21)) := by unfold ixL; simp [hj]
  rw [e] at hv
  cases hv
  have := h.cell (k := j / 21) (j := j % 21) (by omega) (by omega)
  rw [show j / 21 * 21 + j % 21 = 0 + j by omega] at this
  exact this
theorem sz71 : (Try.prog.info? 71).map (·.size) = some 336 := by kernel_rfl
theorem sz70 : (Try.prog.info? 70).map (·.size) = some 21 := by kernel_rfl
theorem extract_line (L : Nat → Ln) {k : Nat} (hk : k < 16) : (ixL L).toArray.extract (k * 21) (k * 21 + 21) = (lnL (L k)).toArray := by
  apply Array.ext
  · simp [ixL_len, lnL_len]; omega
  · intro i h1 h2
    simp at h1 h2
    rw [lnL_len] at h2
    simp only [Array.getElem_extract, List.getElem_toArray]
    unfold ixL lnL
    rw [List.getElem_map, List.getElem_map, List.getElem_range, List.getElem_range, show (k * 21 + i) / 21 = k by omega, show (k * 21 + i) % 21 = i by omega]
theorem run_sizeOf {t : TypeId} {n : Nat} (h : (Try.prog.info? t).map (·.size) = some n) (W : World) : (sizeOf t).run Try.prog W = .ok n W := by
  cases hq : Try.prog.info? t with
  | none => simp [hq] at h
  | some i =>
    have hs : i.size = n := by simpa [hq] using h
    simp [sizeOf, typeInfo, hq, hs]
theorem index71 (L : Nat → Ln) {k : Nat} (hk : k < 16) (W : World) : (Instr.index 71 (.agg (ixL L).toArray) (.int .i64 (k : Int))).run Try.prog W = .ok (.agg (lnL (L k)).toArray) W := by
  have h1 : (isAgg 70).run Try.prog W = .ok true W := by
    unfold isAgg
    rw [Sem.run_bind, run_underlying Try.underlying70 W]; rfl
  have h2 := run_sizeOf sz70 W
  have h3 := extract_line L hk
  have i0 : (0 : Int) ≤ (k : Int) ∧ (k : Int) < 16 := by omega
  have h4 : List.take 21 (List.drop (k * 21) (ixL L)) = lnL (L k) := by simpa using h3
  simp [Instr.index, asIntOf, part, run_underlying Try.underlying71 W, h1, h2, i0, h4, hk]
/-- The kinds below n that have a deal. -/
def dealt (L : Nat → Ln) (n : Nat) : List Nat := (List.range n).filter fun k => decide (0 < (L k).deals)
def vN (l : List Nat) : List Value := l.map fun (k : Nat) => Value.int .i64 (k : Int)
theorem dealt_succ (L : Nat → Ln) (n : Nat) : dealt L (n + 1) = dealt L n ++ (if 0 < (L n).deals then [n] else []) := by
  unfold dealt
  rw [List.range_succ, List.filter_append]
  congr 1
  by_cases h : 0 < (L n).deals <;> simp [h]
theorem dealt_len (L : Nat → Ln) (n : Nat) : (dealt L n).length ≤ n := by
  have := List.length_filter_le (fun k => decide (0 < (L k).deals)) (List.range n)
  rw [List.length_range] at this
  exact this
theorem vN_len (l : List Nat) : (vN l).length = l.length := by simp [vN]
theorem vN_append (l m : List Nat) : vN (l ++ m) = vN l ++ vN m := by simp [vN]
theorem infoI : (Try.prog.info? 3).map (fun i => (i.zero, i.size, i.bytes)) = some (some (.int .i64 0), 1, 8) := by kernel_rfl
theorem one_int (n : Int) : ∀ u ∈ [Value.int .i64 n], u.oneCell' = true := by
  intro u hu
  rw [List.mem_singleton.1 hu]; rfl
theorem sl_new (W : World) (xs : List Value) (t : TypeId) (fz : Nat × Nat) : Sl (W.alloc (.cells xs.toArray t fz)) (some ⟨W.heap.size, 0, none⟩) xs := by
  intro _
  refine ⟨W.heap.size, 0, rfl, fun i hi => ?_⟩
  rw [cell_of_row _ _ _ _ _ _ (alloc_at rfl)]
  simp
/-- Which kind goes ahead. -/
def pL (L : Nat → Ln) (k : Nat) : Int := n03.plcV (L k).avg
def TL (L : Nat → Ln) (a b : Nat) : Prop := pL L b < pL L a ∨ (pL L a = pL L b ∧ a < b)
theorem TL_trans (L : Nat → Ln) (x y z : Nat) (h : TL L x y) (h2 : TL L y z) : TL L x z := by
  unfold TL at *; omega
theorem TL_irr (L : Nat → Ln) (x : Nat) : ¬ TL L x x := by
  unfold TL; omega
theorem zL_iff (L : Nat → Ln) (a b : Nat) : zL (zfL L) a b = true ↔ pL L b < pL L a := by
  unfold zL zfL n03.ordV pL
  rw [decide_eq_true_iff]
  constructor
  · intro h
    split at h
    · assumption
    · split at h <;> omega
  · intro h
    rw [if_pos h]; omega
theorem dealt_sorted (L : Nat → Ln) (n : Nat) : (dealt L n).Pairwise (· < ·) := by
  unfold dealt
  exact List.Pairwise.sublist List.filter_sublist List.pairwise_lt_range
theorem dealt_mem (L : Nat → Ln) (n k : Nat) : k ∈ dealt L n ↔ k < n ∧ 0 < (L k).deals := by
  unfold dealt
  rw [List.mem_filter, List.mem_range, decide_eq_true_iff]
/-- The rank: the kinds with a deal, sorted. -/
structure Rank (L : Nat → Ln) (r : List Nat) : Prop where
  sorted : r.Pairwise (TL L)
  perm : r.Perm (dealt L 16)
theorem Rank.unique {L : Nat → Ln} {r q : List Nat} (h : Rank L r) (h2 : Rank L q) : r = q :=
  (h.perm.trans h2.perm.symm).eq_of_pairwise (fun a b _ _ h1 h2 => absurd (TL_trans L _ _ _ h1 h2) (TL_irr L a)) h.sorted h2.sorted
theorem Rank.len {L : Nat → Ln} {r : List Nat} (h : Rank L r) : r.length ≤ 16 := by
  rw [h.perm.length_eq]; exact dealt_len L 16
theorem vN_row0 (l : List Nat) : vN l = row0 (fun k => l.getD k 0) l.length := by
  unfold vN row0
  apply List.ext_getElem
  · simp
  · intro i h1 h2
    simp at h1 h2
    simp [h1]
theorem piece_list (l : List Nat) : Stab.piece (fun k => l.getD k 0) 0 l.length = l := by
  unfold Stab.piece
  apply List.ext_getElem
  · simp
  · intro i h1 h2
    simp at h1
    simp [h1]
theorem row0_piece (d : Nat → Nat) (n : Nat) : row0 d n = vN (Stab.piece d 0 n) := by
  unfold row0 vN Stab.piece
  apply List.ext_getElem
  · simp
  · intro i h1 h2
    simp
theorem piece_len (d : Nat → Nat) (n : Nat) : (Stab.piece d 0 n).length = n := by unfold Stab.piece; simp
theorem srt_pairL {T : Nat → Nat → Prop} {d : Nat → Nat} {n : Nat} (h : Srt T d 0 n) : (Stab.piece d 0 n).Pairwise T := by
  unfold Stab.piece
  rw [List.pairwise_map]
  refine List.Pairwise.imp_of_mem (R := fun a b => a < b) (fun {a b} ha hb hab => ?_) (by simpa using List.pairwise_lt_range' )
  rw [List.mem_range'_1] at ha hb
  exact h a b (by omega) hab (by omega)
theorem lnL_one (x : Ln) : (lnL x).toArray.all (·.oneCell') = true := by
  rw [Array.all_eq_true]
  intro i hi
  simp only [List.getElem_toArray]
  unfold lnL Ln.cell
  rw [List.getElem_map]
  repeat' split
  all_goals rfl
def zero70 : Array Value := #[.int .i64 0, .float .f32 0, .float .f32 0, .int .u64 0, .int .u64 0, .float .f32 0, .float .f32 0, .float .f32 0, .float .f32 0, .float .f32 0, .float .f32 0, .float .f32 0, .float .f32 0, .bool false, .bool false, .bool false, .bool false, .bool false, .bool false, .bool false, .bool false]
theorem store70 (x : Ln) (V : World) : (storeCells ⟨V.heap.size, 0, none⟩ (lnL x)).run Try.prog (V.alloc (.cells zero70 70)) = .ok () (V.alloc (.cells (lnL x).toArray 70)) := by
  have h1 : (Try.prog.info? 70).map (·.size) = some (lnL x).toArray.size := by rw [sz70]; simp [lnL_len]
  have := run_storeCells_new V 70 zero70 (lnL x).toArray h1 (by simp [lnL_len, zero70]) (lnL_one x)
  simpa using this
theorem lnL_0 (x : Ln) : (lnL x).toArray[0]? = some (.int .i64 x.deals) := by unfold lnL; simp [Ln.cell]
/-- The rank as it is told. -/
def RankIs (L : Nat → Ln) (base : Nat) (w : World) (v : Value) : Prop := ∃ r, Rank L r ∧ w.ownsRow base 3 1 v r.length (vN r)
theorem owns_base {w : World} {b b' : Nat} {e : TypeId} {s n : Nat} {v : Value} {xs : List Value} (h : w.ownsRow b e s v n xs) (hb : b' ≤ b) : w.ownsRow b' e s v n xs := by
  refine ⟨h.1, ?_⟩
  rcases h.2 with hn | ⟨g, cap, cur, rfl, h1, rest⟩
  · exact .inl hn
  · exact .inr ⟨g, cap, cur, rfl, by omega, rest⟩
set_option maxRecDepth 100000 in
set_option maxHeartbeats 4000000 in
theorem rank_any (g : Nat) (L : Nat → Ln) (w : World) (hv : ∀ k, (L k).avg < 4294967296) (h : Ix w g L) :
    Calls Try.prog 10 #[.pointer (some ⟨g, 0, none⟩)] w fun r w' => (∃ v, r = .returned v ∧ RankIs L w.heap.size w' v) ∧ Below w.heap.size w w' := by
  have H := Lib.hid h
  have HG := Lib.hid h.lt
  have HV := Lib.hid hv
  clear h hv
  go_enter Try.func10, Try.ntmps10
  obtain ⟨b, hb⟩ : ∃ b, b = w.heap.size := ⟨_, rfl⟩
  go_upto_region 4 with fail
  refine wp_world (fun W => Ix W g L ∧ W.heap[b]? = some (.cells #[.pointer (some ⟨g, 0, none⟩)] 24) ∧ Below w.heap.size w W ∧ W.heap.size = b + 1) ⟨H.out.kept ((Below.refl _ _).alloc (Nat.le_refl _) _), alloc_at hb, (Below.refl _ _).alloc (Nat.le_refl _) _, by rw [hb]; simp⟩ ?_
  rintro w1 ⟨hi1, hr1, hb1, hs1⟩
  rw [← hb]
  have HB := Lib.hid hb
  have HI1 := Lib.hid hi1
  have HR1 := Lib.hid hr1
  have HB1 := Lib.hid hb1
  have HS1 := Lib.hid hs1
  have z0 : w1.cell? ⟨b, 0, none⟩ = some (.pointer (some ⟨g, 0, none⟩)) := by rw [cell_of_row _ _ _ _ _ _ hr1]; rfl
  clear hi1 hr1 hb1 hb hs1
  obtain ⟨A, hA⟩ : ∃ A, A = (ixL L).toArray := ⟨_, rfl⟩
  go_wp2_with fail
  refine wp_load_mid 71 _ rfl g 0 rfl (ixL L) _ HI1.out.range Try.underlying71 rfl (by rw [ixL_len]; exact sz71) ?_
  rw [← hA]
  have HA := Lib.hid hA
  clear hA
  go_simp
  go_wp2_with fail
  go_loopw [3, 4, 5, 12] (fun s3 s4 s5 i V => ∃ n : Nat, n ≤ 16 ∧ i = .int .i64 n ∧ V.ownsRow (b + 1) 3 1 s3 (dealt L n).length (vN (dealt L n)) ∧ Below (b + 1) w1 V) (fun _ _ _ i _ => 16 - (intOf i).toNat)
  case atStart => exact ⟨0, Nat.zero_le _, rfl, World.ownsRow_nil _ _ _ _, Below.refl _ _⟩
  case round =>
    obtain ⟨n, hn, rfl, ho, hb⟩ := hrel
    have HO := Lib.hid ho
    have HBV := Lib.hid hb
    clear ho hb z0
    by_cases hlt : n < 16
    · have t0 : decide ((n : Int) < 16) = true := by simp; omega
      have hix := fun W => index71 L hlt W
      rw [← HA.out] at hix
      have hst := fun V => store70 (L n) V
      unfold zero70 at hst
      have ti : IntKind.i64.wrap ((n : Int) + 1) = ((n + 1 : Nat) : Int) := by rw [IntKind.wrap_i64]; omega
      have HLT := Lib.hid hlt
      clear hlt hn
      go_upto_region 7 with fail
      obtain ⟨m, hm⟩ : ∃ m, m = wr.heap.size := ⟨_, rfl⟩
      rw [← hm]
      refine wp_world (fun W => W.cell? ⟨m, 0, none⟩ = some (.int .i64 (L n).deals) ∧ W.ownsRow (b + 1) 3 1 u3 (dealt L n).length (vN (dealt L n)) ∧ Below (b + 1) w1 W) ⟨by rw [cell_of_row _ _ _ _ _ _ (alloc_at hm)]; exact lnL_0 _, HO.out.alloc _, HBV.out.alloc (by have := HBV.out.size; have := HS1.out; omega) _⟩ ?_
      rintro w5 ⟨c0, ho5, hb5⟩
      have HO5 := Lib.hid ho5
      have HB5 := Lib.hid hb5
      have HDL := Lib.hid (dealt_len L n)
      clear ho5 hb5 hix hst hm
      by_cases hd : 0 < (L n).deals
      · have tz : decide ((L n).deals > 0) = true := decide_eq_true hd
        have HD1 := Lib.hid (show dealt L (n + 1) = dealt L n ++ [n] by rw [dealt_succ, if_pos hd])
        obtain ⟨z, hz⟩ : ∃ z, z = (L n).deals := ⟨_, rfl⟩
        rw [← hz] at c0 tz
        clear hd hz
        go_wp2_with (at_builtin; refine wpList_append_sl rfl _ _ 26 rfl (b + 1) 3 (.int .i64 0) 1 8 Try.underlying26 infoI rfl (by decide) _ (dealt L n).length (vN (dealt L n)) rfl (HO5.out.alloc _) (some ⟨w5.heap.size, 0, none⟩) 1 1 [.int .i64 (n : Int)] rfl (fun h => by cases h) rfl (sl_new w5 [.int .i64 (n : Int)] 3 (0, 0)) (one_int _) ?c1 ?c2 ?c3 ?c4)
        case c1 => have := HDL.out; have := HLT.out; unfold maxLen; omega
        case c2 => have := HDL.out; have := HLT.out; omega
        case c3 => have := HB5.out.size; have := HS1.out; simp; omega
        case c4 =>
          intro v2 w6 hown hgr
          have HO6 := Lib.hid (show w6.ownsRow (b + 1) 3 1 v2 (dealt L (n + 1)).length (vN (dealt L (n + 1))) by rw [HD1.out, vN_append, List.length_append]; exact hown)
          have HB6 := Lib.hid (show Below (b + 1) w1 w6 from (HB5.out.alloc (by have := HB5.out.size; have := HS1.out; omega) _).grown hgr (by have := HB5.out.size; have := HS1.out; simp; omega) (fun j hj => (HO5.out.lt j hj).1))
          clear hown hgr c0
          go_wp2
          go_roundw
          case rel => exact ⟨n + 1, HLT.out, by go_num, HO6.out, HB6.out⟩
          case measure => have := HLT.out; simp [intOf]; omega
      · have tz : decide ((L n).deals > 0) = false := decide_eq_false hd
        have HD1 := Lib.hid (show dealt L (n + 1) = dealt L n by rw [dealt_succ, if_neg hd, List.append_nil])
        obtain ⟨z, hz⟩ : ∃ z, z = (L n).deals := ⟨_, rfl⟩
        rw [← hz] at c0 tz
        clear hd hz
        go_wp2
        go_roundw
        case rel => exact ⟨n + 1, HLT.out, by go_num, by rw [HD1.out]; exact HO5.out, HB5.out⟩
        case measure => have := HLT.out; simp [intOf]; omega
    · have t0 : decide ((n : Int) < 16) = false := by simp; omega
      obtain rfl : n = 16 := by omega
      have HIV := Lib.hid (show Ix wr g L from HI1.out.kept (by rw [HS1.out]; exact HBV.out))
      have HRV := Lib.hid (show wr.heap[b]? = some (.cells #[.pointer (some ⟨g, 0, none⟩)] 24) from row_kept HR1.out (by rw [HS1.out]; exact HBV.out))
      have HBW := Lib.hid (show Below w.heap.size w wr from HB1.out.trans (HBV.out.mono (by have := HB.out; omega)))
      rcases HO.out.2 with ⟨rfl, hnil⟩ | ⟨gg, cap, cur, rfl, hgg, hrow, hnc, hcap, hcs, htk⟩
      · have HN := Lib.hid hnil
        have HSN := Lib.hid (stable_nil b 0 wr)
        unfold fvc at HSN
        clear hlt hn hnil
        go_wp2_with (go_at_call 26; (with_reducible refine HSN.out.mono ?_); rintro e w9 ⟨rfl, rfl⟩)
        go_ret
        refine ⟨⟨_, rfl, [], ⟨List.Pairwise.nil, ?_⟩, World.ownsRow_nil _ _ _ _⟩, HBW.out⟩
        rw [List.length_eq_zero_iff.1 HN.out]
      · obtain ⟨l, hl⟩ : ∃ l, l = dealt L 16 := ⟨_, rfl⟩
        rw [← hl] at hnc htk ⊢
        obtain ⟨rs, hrs⟩ : ∃ rs, rs = cur.toList.drop l.length := ⟨_, rfl⟩
        have hcur : cur = (rowN rs (fun k => l.getD k 0) l.length).toArray := by
          unfold rowN
          rw [← vN_row0, ← htk, hrs, Nat.mul_one, List.take_append_drop]
        have HRW := Lib.hid (show Rw rs wr gg l.length (fun k => l.getD k 0) from by unfold Rw; rw [← hcur]; exact hrow)
        have HLS := Lib.hid hl
        have HCC := Lib.hid (show l.length ≤ cap ∧ cap ≤ maxLen ∧ rs.length + l.length = cap from ⟨hnc, hcap, by rw [hrs, List.length_drop, Array.length_toList, hcs]; omega⟩)
        have HGG := Lib.hid hgg
        have HST := Lib.hid (stable_any (rs := rs) (cp := cap) (zfL L) (TL L) (TL_trans L) gg l.length b 0 16 (fun k => l.getD k 0) wr (by rw [hl]; have := dealt_len L 16; omega) HRW.out
          (fun k hk => by
            have : l.getD k 0 ∈ dealt L 16 := by rw [← hl, List.getD_eq_getElem?_getD, List.getElem?_eq_getElem hk]; exact List.getElem_mem hk
            exact ((dealt_mem L 16 _).1 this).1)
          (cmp_any g gg b 0 L wr HIV.out HRV.out (by omega) (by have := HG.out; have := HB.out; omega) HV.out)
          (fun x y hxy hy => by
            have e1 : l.getD x 0 = l[x] := by rw [List.getD_eq_getElem?_getD, List.getElem?_eq_getElem (by omega)]; rfl
            have e2 : l.getD y 0 = l[y] := by rw [List.getD_eq_getElem?_getD, List.getElem?_eq_getElem (by omega)]; rfl
            have hs : l[x] < l[y] := by
              have := dealt_sorted L 16
              rw [← hl, List.pairwise_iff_getElem] at this
              exact this x y (by omega) hy hxy
            rw [e1, e2]
            constructor
            · intro h; exact .inl ((zL_iff L _ _).1 h)
            · intro h
              have : ¬ pL L l[x] < pL L l[y] := fun h2 => by rw [(zL_iff L _ _).2 h2] at h; cases h
              unfold TL; omega))
        clear hlt hn hl hnc hcap hcs htk hrs hcur hrow hgg
        obtain ⟨n, hn⟩ : ∃ n, n = l.length := ⟨_, rfl⟩
        rw [← hn] at HST ⊢
        unfold fvc at HST
        have HNL := Lib.hid hn
        clear hn
        go_wp2_with (go_at_call 26; (with_reducible refine HST.out.mono ?_); rintro e w9 ⟨rfl, ho9, d9, hd1, hd2, hd3⟩; have HD := Lib.hid (show Only (fun x => x = gg) wr w9 ∧ Rw rs w9 gg n d9 ∧ Srt (TL L) d9 0 n ∧ Prm (fun k => l.getD k 0) d9 0 n from ⟨ho9, hd1, hd2, hd3⟩); clear ho9 hd1 hd2 hd3)
        go_ret
        have hn := HNL.out
        refine ⟨⟨_, rfl, Stab.piece d9 0 n, ⟨srt_pairL HD.out.2.2.1, ?_⟩, ?_⟩, HBW.out.trans (HD.out.1.below HBW.out.size (fun k hk => by have := HGG.out; have := HB.out; omega))⟩
        · have := HD.out.2.2.2
          unfold Prm at this
          rw [hn, piece_list, HLS.out] at this
          rw [hn, HLS.out]; exact this
        · refine owns_base (b := b + 1) ⟨by rw [vN_len]; omega, .inr ⟨gg, cap, _, by rw [piece_len]; rfl, HGG.out, HD.out.2.1, by rw [piece_len, hn]; exact HCC.out.1, HCC.out.2.1, ?_, ?_⟩⟩ (by have := HB.out; omega)
          · rw [List.size_toArray, rowN_len, hn]; have := HCC.out; omega
          · rw [piece_len, Nat.mul_one]
            unfold rowN
            rw [row0_piece]
            show List.take n (vN (Stab.piece d9 0 n) ++ rs) = _
            rw [List.take_left' (by rw [vN_len, piece_len])]
end Go.Proofs.Ythadfopkacbnlaa
