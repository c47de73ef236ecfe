/-
  Layer 19: the statements' helpers: placed, among, deals.
-/
import Derived.Test.YtbggibdldadpiaaJd
import Derived.Test.YtbggibdldadpiaaPb
namespace Go.Proofs.Ytbggibdldadpiaa
open Go.RowKit Go.K
open Go.Stab (swp rot Srt Prm Out)
set_option linter.unusedVariables false
set_option linter.unusedSimpArgs false
theorem among_any (a : Option Addr) (c : Nat) (l : List Int) (x : Int) (w : World) (hl : l.length ≤ 17592186043904) (hs : Sl w a (vI l)) :
    Calls Try.prog 11 #[.slice a l.length c, .int .i64 x] w fun r w' => r = .returned (.bool (decide (x ∈ l))) ∧ w' = w := by
  have HS := Lib.hid hs
  clear hs
  go_enter Try.func11, Try.ntmps11
  go_wp2
  go_loop [5] (fun i => ∃ k : Nat, k ≤ l.length ∧ i = .int .i64 k ∧ x ∉ l.take k) (fun i => l.length - (intOf i).toNat)
  case atStart => exact ⟨0, Nat.zero_le _, rfl, by simp⟩
  case round =>
    obtain ⟨k, hk, rfl, hx⟩ := hrel
    by_cases hlt : k < l.length
    · have t0 : decide ((k : Int) < (l.length : Int)) = true := decide_eq_true (by omega)
      have t0n : decide (k < l.length) = true := decide_eq_true hlt
      have i1 : (k : Int) < (l.length : Int) := by omega
      obtain ⟨b, o, rfl, z1⟩ := vI_at HS.out k hlt
      have hv : gI l k = l[k] := by unfold gI; rw [List.getD_eq_getElem?_getD, List.getElem?_eq_getElem hlt]; rfl
      have w1 : IntKind.i64.wrap ((k : Int) + 1) = ((k + 1 : Nat) : Int) := by rw [IntKind.wrap_i64]; omega
      by_cases he : gI l k = x
      · have t1 : (gI l k == x) = true := beq_iff_eq.2 he
        have HD := Lib.hid (show decide (x ∈ l) = true by rw [decide_eq_true_iff, ← he, hv]; exact List.getElem_mem hlt)
        clear hx hlt hk hv he
        generalize gI l k = y at *
        go_wp2
        go_ret
        exact ⟨by rw [HD.out]; rfl, rfl⟩
      · have t1 : (gI l k == x) = false := beq_eq_false_iff_ne.2 he
        have HX := Lib.hid (show x ∉ l.take (k + 1) by
          rw [List.take_succ_eq_append_getElem hlt]
          intro h
          rcases List.mem_append.1 h with h | h
          · exact hx h
          · rw [List.mem_singleton, ← hv] at h; exact he h.symm)
        have HK := Lib.hid hlt
        clear hx hlt hk hv he
        generalize gI l k = y at *
        go_wp2
        go_round
        case rel => exact ⟨k + 1, HK.out, by go_num, HX.out⟩
        case measure => have := HK.out; simp [intOf]; omega
    · have t0 : decide ((k : Int) < (l.length : Int)) = false := decide_eq_false (by omega)
      have t0n : decide (k < l.length) = false := decide_eq_false hlt
      have HD := Lib.hid (show decide (x ∈ l) = false by
        rw [decide_eq_false_iff_not]
        rw [List.take_of_length_le (by omega)] at hx
        exact hx)
      clear hx hlt hk
      go_wp2
      go_ret
      exact ⟨by rw [HD.out]; rfl, rfl⟩
theorem deals_any (a b : Option Addr) (c d : Nat) (xs ys : List (BitVec 64)) (p : Nat) (w : World) (hl : xs.length ≤ 17592186043904) (hm : ys.length ≤ 17592186043904) (ha : Sl w a (vQ xs)) (hb : Sl w b (vQ ys)) :
    Calls Try.prog 12 #[.slice a xs.length c, .slice b ys.length d, .int .u64 p] w fun r w' => r = .returned (.int .i64 (min (cLe xs p xs.length) (cGe ys p ys.length) : Nat)) ∧ w' = w := by
  have HA := Lib.hid ha
  have HB := Lib.hid hb
  have HCL := Lib.hid (show ∀ k, cLe xs p k ≤ k from fun k => by induction k with
    | zero => exact Nat.le_refl _
    | succ k ih => simp only [cLe]; split <;> omega)
  have HCG := Lib.hid (show ∀ k, cGe ys p k ≤ k from fun k => by induction k with
    | zero => exact Nat.le_refl _
    | succ k ih => simp only [cGe]; split <;> omega)
  clear ha hb
  go_enter Try.func12, Try.ntmps12
  go_wp2
  go_loop [7, 9] (fun m i => ∃ k : Nat, k ≤ xs.length ∧ i = .int .i64 k ∧ m = .int .i64 (cLe xs p k : Nat)) (fun _ i => xs.length - (intOf i).toNat)
  case atStart => exact ⟨0, Nat.zero_le _, rfl, rfl⟩
  case round =>
    obtain ⟨k, hk, rfl, rfl⟩ := hrel
    by_cases hlt : k < xs.length
    · have t0 : decide ((k : Int) < (xs.length : Int)) = true := decide_eq_true (by omega)
      have t0n : decide (k < xs.length) = true := decide_eq_true hlt
      have i1 : (k : Int) < (xs.length : Int) := by omega
      obtain ⟨b1, o1, rfl, z1⟩ := vQ_at HA.out k hlt
      have w1 : IntKind.i64.wrap ((k : Int) + 1) = ((k + 1 : Nat) : Int) := by rw [IntKind.wrap_i64]; omega
      have HN := Lib.hid (show cLe xs p (k + 1) = cLe xs p k + if lq xs k ≤ p then 1 else 0 from rfl)
      have hc := HCL.out k
      obtain ⟨c1, hc1⟩ : ∃ c1, c1 = cLe xs p (k + 1) := ⟨_, rfl⟩
      have HC1 := Lib.hid hc1
      by_cases he : lq xs k ≤ p
      · have t1 : decide ((lq xs k : Int) ≤ (p : Int)) = true := decide_eq_true (by omega)
        have t1n : decide (lq xs k ≤ p) = true := decide_eq_true he
        have HE := Lib.hid (show cLe xs p (k + 1) = cLe xs p k + 1 by rw [HN.out, if_pos he])
        have w2 : IntKind.i64.wrap ((cLe xs p k : Int) + 1) = (c1 : Int) := by rw [IntKind.wrap_i64, hc1, HE.out]; omega
        have HK := Lib.hid hlt
        clear hlt hk he hc hc1
        generalize lq xs k = y at *
        generalize cLe xs p k = c0 at *
        go_wp2
        go_round
        case rel => exact ⟨k + 1, HK.out, by go_num, by rw [HC1.out]⟩
        case measure => have := HK.out; simp [intOf]; omega
      · have t1 : decide ((lq xs k : Int) ≤ (p : Int)) = false := decide_eq_false (by omega)
        have t1n : decide (lq xs k ≤ p) = false := decide_eq_false he
        have HE := Lib.hid (show cLe xs p (k + 1) = cLe xs p k by rw [HN.out, if_neg he]; rfl)
        have HK := Lib.hid hlt
        clear hlt hk he hc hc1
        generalize lq xs k = y at *
        go_wp2
        go_round
        case rel => exact ⟨k + 1, HK.out, by go_num, by rw [HE.out]⟩
        case measure => have := HK.out; simp [intOf]; omega
    · have t0 : decide ((k : Int) < (xs.length : Int)) = false := decide_eq_false (by omega)
      have t0n : decide (k < xs.length) = false := decide_eq_false hlt
      obtain ⟨cn, hcn⟩ : ∃ cn, cn = cLe xs p xs.length := ⟨_, rfl⟩
      have e0 : cLe xs p k = cn := by rw [hcn, show k = xs.length by omega]
      have HCN := Lib.hid hcn
      have HKK := Lib.hid hk
      rw [e0]
      clear hlt hk e0 hcn
      go_wp2
      go_loop [8, 10] (fun m i => ∃ k : Nat, k ≤ ys.length ∧ i = .int .i64 k ∧ m = .int .i64 (cGe ys p k : Nat)) (fun _ i => ys.length - (intOf i).toNat)
      case atStart => exact ⟨0, Nat.zero_le _, rfl, rfl⟩
      case round =>
        clear t0 t0n HKK
        obtain ⟨k, hk, rfl, rfl⟩ := hrel
        by_cases hlt : k < ys.length
        · have t0 : decide ((k : Int) < (ys.length : Int)) = true := decide_eq_true (by omega)
          have t0n : decide (k < ys.length) = true := decide_eq_true hlt
          have i1 : (k : Int) < (ys.length : Int) := by omega
          obtain ⟨b1, o1, rfl, z1⟩ := vQ_at HB.out k hlt
          have w1 : IntKind.i64.wrap ((k : Int) + 1) = ((k + 1 : Nat) : Int) := by rw [IntKind.wrap_i64]; omega
          have HN := Lib.hid (show cGe ys p (k + 1) = cGe ys p k + if p ≤ lq ys k then 1 else 0 from rfl)
          have hc := HCG.out k
          obtain ⟨c1, hc1⟩ : ∃ c1, c1 = cGe ys p (k + 1) := ⟨_, rfl⟩
          have HC1 := Lib.hid hc1
          by_cases he : p ≤ lq ys k
          · have t1 : decide ((p : Int) ≤ (lq ys k : Int)) = true := decide_eq_true (by omega)
            have t1n : decide (p ≤ lq ys k) = true := decide_eq_true he
            have HE := Lib.hid (show cGe ys p (k + 1) = cGe ys p k + 1 by rw [HN.out, if_pos he])
            have w2 : IntKind.i64.wrap ((cGe ys p k : Int) + 1) = (c1 : Int) := by rw [IntKind.wrap_i64, hc1, HE.out]; omega
            have HK := Lib.hid hlt
            clear hlt hk he hc hc1
            generalize lq ys k = y at *
            generalize cGe ys p k = c0 at *
            go_wp2
            go_round
            case rel => exact ⟨k + 1, HK.out, by go_num, by rw [HC1.out]⟩
            case measure => have := HK.out; simp [intOf]; omega
          · have t1 : decide ((p : Int) ≤ (lq ys k : Int)) = false := decide_eq_false (by omega)
            have t1n : decide (p ≤ lq ys k) = false := decide_eq_false he
            have HE := Lib.hid (show cGe ys p (k + 1) = cGe ys p k by rw [HN.out, if_neg he]; rfl)
            have HK := Lib.hid hlt
            clear hlt hk he hc hc1
            generalize lq ys k = y at *
            go_wp2
            go_round
            case rel => exact ⟨k + 1, HK.out, by go_num, by rw [HE.out]⟩
            case measure => have := HK.out; simp [intOf]; omega
        · have t0 : decide ((k : Int) < (ys.length : Int)) = false := decide_eq_false (by omega)
          have t0n : decide (k < ys.length) = false := decide_eq_false hlt
          have e1 : k = ys.length := by omega
          obtain ⟨cm, hcm⟩ : ∃ cm, cm = cGe ys p ys.length := ⟨_, rfl⟩
          have e0 : cGe ys p k = cm := by rw [hcm, e1]
          have HCM := Lib.hid hcm
          rw [e0]
          clear hlt hk e0 hcm e1
          by_cases c0 : cm < cn
          · have m1 : ¬ cn < cm := by omega
            have HE := Lib.hid (show min cn cm = cm by omega)
            go_wp2
            all_goals
              go_ret
              exact ⟨by rw [← HCN.out, ← HCM.out, HE.out]; rfl, rfl⟩
          · have HE := Lib.hid (show min cn cm = cn by omega)
            go_wp2
            all_goals
              go_ret
              exact ⟨by rw [← HCN.out, ← HCM.out, HE.out]; rfl, rfl⟩
/-- A row of bools as it lies. -/
def rowB (s : Nat → Bool) (n : Nat) : List Value := (List.range n).map fun k => Value.bool (s k)
def Rb (W : World) (g n : Nat) (s : Nat → Bool) : Prop := W.heap[g]? = some (.cells (rowB s n).toArray 4)
theorem rowB_len (s : Nat → Bool) (n : Nat) : (rowB s n).length = n := by unfold rowB; simp
theorem Rb.cell {W : World} {g n : Nat} {s : Nat → Bool} (h : Rb W g n s) (k : Nat) (hk : k < n) : W.cell? ⟨g, k, none⟩ = some (.bool (s k)) := by
  rw [cell_of_row _ _ _ _ _ _ h]
  simp [rowB, hk]
def updB (s : Nat → Bool) (k j : Nat) : Bool := if j = k then true else s j
theorem rowB_upd (s : Nat → Bool) (n k : Nat) (hk : k < n) : ((rowB s n).toArray.toList.take k ++ (Value.bool true).cells.toList ++ (rowB s n).toArray.toList.drop (k + (Value.bool true).cells.size)).toArray = (rowB (updB s k) n).toArray := by
  congr 1
  show (rowB s n).take k ++ [Value.bool true] ++ (rowB s n).drop (k + 1) = _
  have h : (rowB s n).set k (Value.bool true) = rowB (updB s k) n := by
    apply List.ext_getElem
    · rw [List.length_set, rowB_len, rowB_len]
    · intro i h1 h2
      have e1 : (rowB (updB s k) n)[i] = Value.bool (updB s k i) := by simp [rowB]
      have e2 : ∀ h, (rowB s n)[i]'h = Value.bool (s i) := fun h => by simp [rowB]
      rw [List.getElem_set, e1]
      unfold updB
      by_cases e : k = i
      · rw [if_pos e, if_pos e.symm]
      · rw [if_neg e, e2, if_neg (fun h => e h.symm)]
  rw [← h, List.set_eq_take_append_cons_drop, if_pos (by rw [rowB_len]; exact hk), List.append_assoc]
  rfl
theorem infoB : (Try.prog.info? 4).map (fun i => (i.zero, i.size, i.bytes)) = some (some (.bool false), 1, 1) := by kernel_rfl
theorem szB : (Try.prog.info? 4).map (·.size) = some 1 := by kernel_rfl
theorem made_rowB (n : Nat) : madeCells (Value.bool false).cells n = (rowB (fun _ => false) n).toArray := by
  apply Array.ext
  · simp [madeCells, rowB]
  · intro i h1 h2
    simp [madeCells, rowB, Value.cells, Nat.mod_one]
theorem make70 (n : Nat) (h : n ≤ 17592186043904) (w : World) : (Instr.makeSlice 70 (.int .i64 n) (.int .i64 n)).run Try.prog w = .ok (.slice (some ⟨w.heap.size, 0, none⟩) n n) (w.alloc (.cells (rowB (fun _ => false) n).toArray 4)) := by
  obtain ⟨i, hi, hz, hs, hb⟩ := info_parts infoB
  have := run_make (P := Try.prog) w 70 4 i (.bool false) Try.underlying70 hi hz .i64 .i64 n n (by omega) (by omega) (by rw [hb]; omega) (by omega)
  rw [hs] at this
  simpa [made_rowB] using this
theorem gI_get (l : List Int) (i : Nat) (h : i < l.length) : gI l i = l[i] := by unfold gI; rw [List.getD_eq_getElem?_getD, List.getElem?_eq_getElem h]; rfl
/-- Which places have been seen. -/
def seenB (l : List Int) (i j : Nat) : Bool := decide ((j : Int) ∈ l.take i)
theorem seenB_zero (l : List Int) : (fun _ => false) = seenB l 0 := by funext j; unfold seenB; simp
theorem seenB_step (l : List Int) (i x : Nat) (hi : i < l.length) (hx : gI l i = (x : Int)) : updB (seenB l i) x = seenB l (i + 1) := by
  funext j
  unfold updB seenB
  rw [List.take_succ_eq_append_getElem hi, ← gI_get l i hi, hx]
  by_cases e : j = x
  · rw [if_pos e, e]; symm; rw [decide_eq_true_iff]; simp
  · rw [if_neg e]
    apply decide_eq_decide.2
    rw [List.mem_append, List.mem_singleton]
    constructor
    · exact .inl
    · rintro (h | h)
      · exact h
      · exact absurd (by omega) e
theorem take_mem (l : List Int) (i : Nat) (x : Int) (hi : i ≤ l.length) : x ∈ l.take i ↔ ∃ t, t < i ∧ gI l t = x := by
  constructor
  · intro h
    obtain ⟨t, ht, e⟩ := List.mem_iff_getElem.1 h
    rw [List.length_take] at ht
    refine ⟨t, by omega, ?_⟩
    rw [gI_get l t (by omega), ← e, List.getElem_take]
  · rintro ⟨t, ht, e⟩
    rw [gI_get l t (by omega)] at e
    rw [List.mem_iff_getElem]
    exact ⟨t, by rw [List.length_take]; omega, by rw [List.getElem_take]; exact e⟩
set_option maxRecDepth 100000 in
set_option maxHeartbeats 2000000 in
theorem placed_any (a : Option Addr) (c : Nat) (l : List Int) (n : Nat) (w : World) (hl : l.length ≤ 17592186043904) (hn : n ≤ 17592186043904) (hs : Sl w a (vI l)) :
    Calls Try.prog 10 #[.slice a l.length c, .int .i64 n] w fun r w' => ∃ bv : Bool, r = .returned (.bool bv) ∧ (bv = true ↔ PlacedP (gI l) l.length n) ∧ Below w.heap.size w w' := by
  have HS := Lib.hid hs
  have hmk := make70 n hn
  clear hs
  go_enter Try.func10, Try.ntmps10
  go_upto_region 2 with fail
  obtain ⟨g, hg⟩ : ∃ g, g = w.heap.size := ⟨_, rfl⟩
  rw [← hg]
  refine wp_world (fun V => Rb V g n (seenB l 0) ∧ Below w.heap.size w V) ?_ ?_
  · refine ⟨?_, ?_⟩
    · rw [← seenB_zero]; exact alloc_at (by rw [hg])
    · exact (Below.refl _ _).alloc (Nat.le_refl _) _
  intro V0 h0
  have H0 := Lib.hid h0
  have HGG := Lib.hid hg
  clear h0 hmk hg
  go_wp2
  go_loopw [6] (fun x6 V => ∃ i : Nat, i ≤ l.length ∧ x6 = .int .i64 i ∧ PlacedP (gI l) i n ∧ Rb V g n (seenB l i) ∧ Below w.heap.size w V) (fun x6 _ => l.length - (intOf x6).toNat)
  case atStart => exact ⟨0, Nat.zero_le _, rfl, ⟨fun i hi => absurd hi (Nat.not_lt_zero _), fun i j hi => absurd hi (Nat.not_lt_zero _)⟩, H0.out⟩
  case round =>
    obtain ⟨i, hi, rfl, hp, hr, hb⟩ := hrel
    have HP := Lib.hid hp
    have HR := Lib.hid hr
    have HB := Lib.hid hb
    clear hp hr hb H0
    by_cases hlt : i < l.length
    · have t0 : decide ((i : Int) < (l.length : Int)) = true := decide_eq_true (by omega)
      have t0n : decide (i < l.length) = true := decide_eq_true hlt
      have i1 : (i : Int) < (l.length : Int) := by omega
      obtain ⟨b, o, rfl, z1⟩ := vI_at (HS.out.kept HB.out) i hlt
      have w1 : IntKind.i64.wrap ((i : Int) + 1) = ((i + 1 : Nat) : Int) := by rw [IntKind.wrap_i64]; omega
      have HI := Lib.hid hlt
      have HOUT := Lib.hid (show (¬ (0 ≤ gI l i ∧ gI l i < (n : Int)) ∨ ∃ t, t < i ∧ gI l t = gI l i) → ¬ PlacedP (gI l) l.length n from fun h hp => by
        rcases h with h | ⟨t, h1, h2⟩
        · exact h (hp.1 i hlt)
        · have := hp.2 t i (by omega) hlt h2; omega)
      clear hlt hi
      by_cases c1 : gI l i < 0
      · have s1 : decide (gI l i < 0) = true := decide_eq_true c1
        have HF := Lib.hid (HOUT.out (.inl (fun h => by omega)))
        clear c1
        generalize gI l i = x at *
        go_wp2
        go_ret
        exact ⟨false, rfl, ⟨(fun h => by cases h), fun h => absurd h HF.out⟩, HB.out⟩
      · have s1 : decide (gI l i < 0) = false := decide_eq_false c1
        obtain ⟨x, hx⟩ : ∃ x : Nat, gI l i = (x : Int) := ⟨(gI l i).toNat, by omega⟩
        rw [hx] at z1 s1 HOUT
        have HX := Lib.hid hx
        clear hx c1
        by_cases c2 : n ≤ x
        · have s2 : decide ((n : Int) ≤ (x : Int)) = true := decide_eq_true (by omega)
          have s2n : decide (n ≤ x) = true := decide_eq_true c2
          have HF := Lib.hid (HOUT.out (.inl (fun h => by omega)))
          clear c2
          go_wp2
          go_ret
          exact ⟨false, rfl, ⟨(fun h => by cases h), fun h => absurd h HF.out⟩, HB.out⟩
        · have s2 : decide ((n : Int) ≤ (x : Int)) = false := decide_eq_false (by omega)
          have s2n : decide (n ≤ x) = false := decide_eq_false c2
          have i2 : (x : Int) < (n : Int) := by omega
          have z2 := HR.out.cell x (by omega)
          have HXN := Lib.hid (show x < n by omega)
          clear c2
          by_cases c3 : seenB l i x = true
          · rw [c3] at z2
            have HF := Lib.hid (HOUT.out (.inr ((take_mem l i _ (Nat.le_of_lt HI.out)).1 (of_decide_eq_true c3))))
            clear c3
            go_wp2
            go_ret
            exact ⟨false, rfl, ⟨(fun h => by cases h), fun h => absurd h HF.out⟩, HB.out⟩
          · have c3' : seenB l i x = false := by simpa using c3
            rw [c3'] at z2
            have HNS := Lib.hid (show ¬ ∃ t, t < i ∧ gI l t = (x : Int) from fun h => c3 (decide_eq_true ((take_mem l i _ (Nat.le_of_lt HI.out)).2 h)))
            have HST := Lib.hid (seenB_step l i x HI.out HX.out)
            clear c3 c3'
            go_wp2_with ((with_reducible refine at_store_op ?_); refine wpList_store_lit 4 g x (rowB (seenB l (i + 1)) n).toArray (.bool true) HR.out szB (by show x + 1 ≤ (rowB (seenB l i) n).toArray.size; have := HXN.out; simp [rowB_len]; omega) rfl (by rw [← HST.out]; exact rowB_upd (seenB l i) n x HXN.out) ?_ ?_ ?_; exact rfl; exact rfl; intro V1 hp1; have HP1 := Lib.hid (show Rb V1 g n (seenB l (i + 1)) ∧ Below w.heap.size w V1 from ⟨hp1.at', hp1.below HB.out HB.out.size (by have := HGG.out; omega)⟩); clear hp1)
            go_roundw
            case rel =>
              refine ⟨i + 1, HI.out, by go_num, ⟨fun t ht => ?_, fun t u ht hu e => ?_⟩, HP1.out⟩
              · by_cases et : t = i
                · rw [et, HX.out]; have := HXN.out; omega
                · exact HP.out.1 t (by omega)
              · by_cases et : t = i
                · by_cases eu : u = i
                  · omega
                  · exact absurd ⟨u, by omega, by rw [← e, et, HX.out]⟩ HNS.out
                · by_cases eu : u = i
                  · exact absurd ⟨t, by omega, by rw [e, eu, HX.out]⟩ HNS.out
                  · exact HP.out.2 t u (by omega) (by omega) e
            case measure => have := HI.out; simp [intOf]; omega
    · have t0 : decide ((i : Int) < (l.length : Int)) = false := decide_eq_false (by omega)
      have t0n : decide (i < l.length) = false := decide_eq_false hlt
      have HE := Lib.hid (show i = l.length by omega)
      clear hlt hi
      go_wp2
      go_ret
      exact ⟨true, rfl, ⟨fun _ => by rw [← HE.out]; exact HP.out, fun _ => rfl⟩, HB.out⟩
end Go.Proofs.Ytbggibdldadpiaa
