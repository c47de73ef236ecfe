/-
  Layer 19: the row that is sorted, and the ranges that change places in it.
-/
import Derived.Test.YthadfopkacbnlaaRows
import Derived.Test.YthadfopkacbnlaaGen
namespace Go.Proofs.Ythadfopkacbnlaa
open Go.RowKit Go.K Go.Stab
set_option linter.unusedVariables false
set_option linter.unusedSimpArgs false
variable {rs : List Value} {cp : Nat}
/-- A row of n numbers as it lies. -/
def row0 (c : Nat → Nat) (n : Nat) : List Value := (List.range n).map fun k => Value.int .i64 (c k : Int)
/-- The same with cells behind it that nobody looks at. -/
def rowN (rs : List Value) (c : Nat → Nat) (n : Nat) : List Value := row0 c n ++ rs
def Rw (rs : List Value) (W : World) (g n : Nat) (c : Nat → Nat) : Prop := W.heap[g]? = some (.cells (rowN rs c n).toArray 3)
theorem row0_len (c : Nat → Nat) (n : Nat) : (row0 c n).length = n := by unfold row0; simp
theorem rowN_len (c : Nat → Nat) (n : Nat) : (rowN rs c n).length = n + rs.length := by unfold rowN; rw [List.length_append, row0_len]
theorem Rw.cell {W : World} {g n : Nat} {c : Nat → Nat} (h : Rw rs W g n c) (k : Nat) (hk : k < n) : W.cell? ⟨g, k, none⟩ = some (.int .i64 (c k)) := by
  rw [cell_of_row _ _ _ _ _ _ h]
  have e : (rowN rs c n)[k]? = (row0 c n)[k]? := by unfold rowN; rw [List.getElem?_append_left (by rw [row0_len]; exact hk)]
  simp [e, row0, hk]
theorem Rw.kept {W W' : World} {g n : Nat} {c : Nat → Nat} (h : Rw rs W g n c) (hb : Below W.heap.size W W') : Rw rs W' g n c := row_kept h hb
/-- One place written. -/
def upd (c : Nat → Nat) (k v j : Nat) : Nat := if j = k then v else c j
theorem rowN_upd (c : Nat → Nat) (n k v : Nat) (hk : k < n) : ((rowN rs c n).toArray.toList.take k ++ (Value.int .i64 (v : Int)).cells.toList ++ (rowN rs c n).toArray.toList.drop (k + (Value.int .i64 (v : Int)).cells.size)).toArray = (rowN rs (upd c k v) n).toArray := by
  congr 1
  show (rowN rs c n).take k ++ [Value.int .i64 (v : Int)] ++ (rowN rs c n).drop (k + 1) = _
  have h0 : (row0 c n).set k (Value.int .i64 (v : Int)) = row0 (upd c k v) n := by
    apply List.ext_getElem
    · rw [List.length_set, row0_len, row0_len]
    · intro i h1 h2
      have e1 : (row0 (upd c k v) n)[i] = Value.int .i64 (upd c k v i : Int) := by simp [row0]
      have e2 : ∀ h, (row0 c n)[i]'h = Value.int .i64 (c i : Int) := fun h => by simp [row0]
      rw [List.getElem_set, e1]
      unfold upd
      by_cases e : k = i
      · rw [if_pos e, if_pos e.symm]
      · rw [if_neg e, e2, if_neg (fun h => e h.symm)]
  have h : (rowN rs c n).set k (Value.int .i64 (v : Int)) = rowN rs (upd c k v) n := by
    unfold rowN
    rw [List.set_append_left _ _ (by rw [row0_len]; exact hk), h0]
  rw [← h, List.set_eq_take_append_cons_drop, if_pos (by rw [rowN_len]; omega), List.append_assoc]
  rfl
theorem upd_swp (c : Nat → Nat) (i j : Nat) : upd (upd c i (c j)) j (c i) = swp c i j := by
  funext k
  unfold upd swp
  by_cases h1 : k = j
  · subst h1
    rw [if_pos rfl]
    by_cases h2 : k = i
    · rw [if_pos h2, h2]
    · rw [if_neg h2, if_pos rfl]
  · rw [if_neg h1]
    by_cases h2 : k = i
    · rw [if_pos h2, if_pos h2]
    · rw [if_neg h2, if_neg h2, if_neg h1]
/-- What does not mind a store that comes ahead of it. -/
def lateO (o : Oper) : Bool := match o.op with | .load _ _ => false | .store _ _ _ => false | _ => true
/-- The row of a swap: as it was, or with the first place written. -/
def SwF (rs : List Value) (w : World) (g n x y : Nat) (d : Nat → Nat) (b : Bool) (W : World) : Prop := Rw rs W g n (if b then upd d x (d y) else d) ∧ Only (fun k => k = g) w W
theorem szI : (Try.prog.info? 3).map (·.size) = some 1 := by kernel_rfl
set_option maxRecDepth 100000 in
set_option maxHeartbeats 1000000 in
theorem swapr_any (fv : Value) (g n a b k : Nat) (c : Nat → Nat) (w : World) (hn : n < 4611686018427387904) (hr : Rw rs w g n c) (h1 : a + k ≤ b) (h2 : b + k ≤ n) :
    Calls Try.prog 73 #[.slice (some ⟨g, 0, none⟩) n cp, .int .i64 a, .int .i64 b, .int .i64 k, fv] w fun r w' => r = .returned (.tuple #[]) ∧ Rw rs w' g n (swr c a b k) ∧ Only (fun x => x = g) w w' := by
  have HR := Lib.hid hr
  clear hr
  go_enter Try.func73, Try.ntmps73
  go_wp2
  go_loopw [10] (fun ii V => ∃ i : Nat, i ≤ k ∧ ii = .int .i64 i ∧ Rw rs V g n (swr c a b i) ∧ Only (fun x => x = g) w V) (fun ii _ => k - (intOf ii).toNat)
  case atStart => exact ⟨0, Nat.zero_le _, rfl, by rw [swr_zero]; exact HR.out, Only.refl _ _⟩
  case round =>
    obtain ⟨i, hi, rfl, hm, ho⟩ := hrel
    have HM := Lib.hid hm
    have HO := Lib.hid ho
    clear hm ho HR
    by_cases hlt : i < k
    · have t0 : decide ((i : Int) < (k : Int)) = true := decide_eq_true (by omega)
      have t0n : decide (i < k) = true := decide_eq_true hlt
      have HS := Lib.hid (swr_step c a b i (by omega))
      generalize swr c a b i = d at *
      have z1 := HM.out.cell (a + i) (by omega)
      have z2 := HM.out.cell (b + i) (by omega)
      obtain ⟨x, hx⟩ : ∃ x, x = a + i := ⟨_, rfl⟩
      obtain ⟨y, hy⟩ : ∃ y, y = b + i := ⟨_, rfl⟩
      rw [← hx] at z1 HS
      rw [← hy] at z2 HS
      have w1 : IntKind.i64.wrap ((a : Int) + (i : Int)) = (x : Int) := by rw [IntKind.wrap_i64]; omega
      have w2 : IntKind.i64.wrap ((b : Int) + (i : Int)) = (y : Int) := by rw [IntKind.wrap_i64]; omega
      have w3 : IntKind.i64.wrap ((i : Int) + 1) = ((i + 1 : Nat) : Int) := by rw [IntKind.wrap_i64]; omega
      have i1 : (x : Int) < (n : Int) := by omega
      have i2 : (y : Int) < (n : Int) := by omega
      have HX := Lib.hid (show x < n ∧ y < n by omega)
      have HI := Lib.hid (show i + 1 ≤ k by omega)
      clear hx hy z1 z2
      go_wp2
      refine wp_region_mark 23 (SwF rs w g n x y d) isStore lateO (by kernel_rfl) (by kernel_rfl) (by kernel_rfl) (by kernel_rfl) (fun m => ⟨HM.out, HO.out.trans (Only.of_below (S := fun k => k = g) (below_drawn (Below.refl _ _) m)) (fun k hk => .inl hk)⟩) ?_
      simp only [List.take_succ_cons, List.take_zero]
      iterate 21
        apply wpMark_cons
        · rfl
        · intro b Wx hl hw
          cases b
          · have q1 := hw.1.cell x HX.out.1
            have q2 := hw.1.cell y HX.out.2
            simp only [Bool.false_eq_true, if_false] at q1 q2
            go_simp
            exact ⟨hw, rfl⟩
          · first
              | exact absurd (hl rfl) (by decide)
              | (go_simp; exact ⟨hw, rfl⟩)
        simp only [Act.put, List.setIfInBounds_toArray, List.set_cons_zero, List.set_cons_succ]
      refine wpMark_cons undef rfl (fun b Wx hl hw => ?_) ?_
      · cases b
        · have hr : Wx.heap[g]? = some (.cells (rowN rs d n).toArray 3) := hw.1
          show InvRun Try.prog (SwF rs w g n x y d true) _ _
          refine inv_store_lit 3 g x (rowN rs (upd d x (d y)) n).toArray (.int .i64 (d y : Int)) hr szI (by show x + 1 ≤ (rowN rs d n).toArray.size; simp [rowN_len]; have := HX.out.1; omega) rfl (rowN_upd d n x (d y) HX.out.1) ?_ ?_ (fun W hp => ⟨hp.at', hw.2.trans hp.only (fun k hk => .inl hk)⟩)
          · rfl
          · rfl
        · exact absurd (hl rfl) (by decide)
      simp only [Act.put, List.setIfInBounds_toArray, List.set_cons_zero, List.set_cons_succ]
      apply wpMark_cons
      · rfl
      · intro b Wx hl hw
        cases b
        · go_simp
          exact ⟨hw, rfl⟩
        · go_simp
          exact ⟨hw, rfl⟩
      simp only [Act.put, List.setIfInBounds_toArray, List.set_cons_zero, List.set_cons_succ]
      refine wpMark_nil (fun V hV => ?_)
      have hr : V.heap[g]? = some (.cells (rowN rs (upd d x (d y)) n).toArray 3) := hV.1
      simp only [List.drop_succ_cons, List.drop_zero]
      refine wpList_store_lit 3 g y (rowN rs (upd (upd d x (d y)) y (d x)) n).toArray (.int .i64 (d x : Int)) hr szI (by show y + 1 ≤ (rowN rs (upd d x (d y)) n).toArray.size; simp [rowN_len]; have := HX.out.2; omega) rfl (rowN_upd (upd d x (d y)) n y (d x) HX.out.2) ?_ ?_ ?_
      · rfl
      · rfl
      intro V2 hp2
      have HE := Lib.hid (show Rw rs V2 g n (swp d x y) by have h := hp2.at'; rw [upd_swp] at h; exact h)
      have HO2 := Lib.hid (show Only (fun k => k = g) w V2 from hV.2.trans hp2.only (fun k hk => .inl hk))
      rw [HS.out] at HE
      clear hV hr hp2
      go_wp2
      go_roundw
      case rel => exact ⟨i + 1, HI.out, by go_num, HE.out, HO2.out⟩
      case measure => have := HI.out; simp [intOf]; omega
    · have t0 : decide ((i : Int) < (k : Int)) = false := decide_eq_false (by omega)
      have t0n : decide (i < k) = false := decide_eq_false hlt
      have HE := Lib.hid (show Rw rs wr g n (swr c a b k) by have h := HM.out; rw [show i = k by omega] at h; exact h)
      go_wp2
      exact bodyPost_end (results_none Try.results73 _ _ _) rfl ⟨rfl, HE.out, HO.out⟩
end Go.Proofs.Ythadfopkacbnlaa

