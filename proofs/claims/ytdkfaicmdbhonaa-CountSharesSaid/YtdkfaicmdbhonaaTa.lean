/-
  Layer 1: the row that Go's sort.SliceStable sorts; its pieces change places by a function value.
-/
import Derived.Test.YtdkfaicmdbhonaaRows
import Derived.Test.YtdkfaicmdbhonaaGen
import Derived.Deep.DeepCutAuto
import Derived.Deep.CutBlock
namespace Go.Proofs.Ytdkfaicmdbhonaa
open Go.RowKit Go.K Go.Stab
set_option linter.unusedVariables false
set_option linter.unusedSimpArgs false
/-- A row of n numbers as it lies. -/
def rowN (c : Nat → Nat) (n : Nat) : List Value := (List.range n).map fun k => Value.int .i64 (c k : Int)
def Rw (W : World) (g n : Nat) (c : Nat → Nat) : Prop := W.heap[g]? = some (.cells (rowN c n).toArray 3)
theorem rowN_len (c : Nat → Nat) (n : Nat) : (rowN c n).length = n := by unfold rowN; simp
theorem Rw.cell {W : World} {g n : Nat} {c : Nat → Nat} (h : Rw W g n c) (k : Nat) (hk : k < n) : W.cell? ⟨g, k, none⟩ = some (.int .i64 (c k)) := by
  rw [cell_of_row _ _ _ _ _ _ h]
  simp [rowN, hk]
theorem Rw.kept {W W' : World} {g n : Nat} {c : Nat → Nat} (h : Rw W g n c) (hb : Below W.heap.size W W') : Rw W' g n c := row_kept h hb
/-- One place written. -/
def upd (c : Nat → Nat) (k v j : Nat) : Nat := if j = k then v else c j
theorem rowN_upd (c : Nat → Nat) (n k v : Nat) (hk : k < n) : ((rowN c n).toArray.toList.take k ++ (Value.int .i64 (v : Int)).cells.toList ++ (rowN c n).toArray.toList.drop (k + (Value.int .i64 (v : Int)).cells.size)).toArray = (rowN (upd c k v) n).toArray := by
  congr 1
  show (rowN c n).take k ++ [Value.int .i64 (v : Int)] ++ (rowN c n).drop (k + 1) = _
  have h : (rowN c n).set k (Value.int .i64 (v : Int)) = rowN (upd c k v) n := by
    apply List.ext_getElem
    · rw [List.length_set, rowN_len, rowN_len]
    · intro i h1 h2
      have e1 : (rowN (upd c k v) n)[i] = Value.int .i64 (upd c k v i : Int) := by simp [rowN]
      have e2 : ∀ h, (rowN c n)[i]'h = Value.int .i64 (c i : Int) := fun h => by simp [rowN]
      rw [List.getElem_set, e1]
      unfold upd
      by_cases e : k = i
      · rw [if_pos e, if_pos e.symm]
      · rw [if_neg e, e2, if_neg (fun h => e h.symm)]
  rw [← h, List.set_eq_take_append_cons_drop, if_pos (by rw [rowN_len]; exact hk), List.append_assoc]
  rfl
theorem upd_swp (c : Nat → Nat) (i j : Nat) : upd (upd c i (c j)) j (c i) = swp c i j := by
  funext k
  unfold upd swp
  by_cases h1 : k = j
  · subst h1
    rw [if_pos rfl]
    by_cases h2 : k = i
    · rw [if_pos h2, h2]
    · rw [if_neg h2, if_pos rfl]
  · rw [if_neg h1]
    by_cases h2 : k = i
    · rw [if_pos h2, if_pos h2]
    · rw [if_neg h2, if_neg h2, if_neg h1]
theorem szI : (Try.prog.info? 3).map (·.size) = some 1 := by kernel_rfl
/-- The function value that swaps: what it does to the row. -/
def SwapC (f : Nat) (sb : Array Value) (g n : Nat) : Prop := ∀ (V : World) (d : Nat → Nat) (i j : Nat), Rw V g n d → i < n → j < n → i ≠ j →
  ∃ V', (callFunc f (#[.int .i64 (i : Int), .int .i64 (j : Int)] ++ sb)).run Try.prog V = .ok (.value (.tuple #[])) V' ∧ Rw V' g n (swp d i j) ∧ Only (fun k => k = g) V V'
/-- What less answers, by what stands at the two places. -/
def LessC (L : Nat → Nat → Bool) (N n g cb lb : Nat) (w : World) : Prop := ∀ (V : World) (d : Nat → Nat), Only (fun k => k = g) w V → Rw V g n d → (∀ k, k < n → d k < N) → ∀ i j : Nat, i < n → j < n →
  Calls Try.prog 60 #[.int .i64 i, .int .i64 j, .pointer (some ⟨cb, 0, none⟩), .pointer (some ⟨lb, 0, none⟩)] V fun r V' => r = .returned (.bool (L (d i) (d j))) ∧ Qt V V'
theorem LessC.only {L : Nat → Nat → Bool} {N n g cb lb : Nat} {w W : World} (h : LessC L N n g cb lb w) (ho : Only (fun k => k = g) w W) : LessC L N n g cb lb W := fun V d hV => h V d (ho.trans hV (fun k hk => .inl hk))
/-- The pair of function values. -/
def lsA (f : Nat) (sb : Array Value) (cb lb : Nat) : Array Value := #[.func (.func 60) #[] #[.pointer (some ⟨cb, 0, none⟩), .pointer (some ⟨lb, 0, none⟩)], .func (.func f) #[] sb]
theorem only_box {S : Nat → Prop} {w : World} (o : Obj) : Only S w (w.alloc o) := Only.of_below ((Below.refl _ _).alloc (Nat.le_refl _) _)
/-- What a walk of one of the sort's functions stands on: the box of the pair. -/
structure Bxs (f : Nat) (sb : Array Value) (cb lb g bx : Nat) (w1 : World) : Prop where
  row : w1.heap[bx]? = some (.cells (lsA f sb cb lb) 101)
  ne : bx ≠ g
theorem Bxs.cells {f : Nat} {sb : Array Value} {cb lb g bx : Nat} {w1 V : World} (h : Bxs f sb cb lb g bx w1) (ho : Only (fun k => k = g) w1 V) :
    V.cell? ⟨bx, 0, none⟩ = some (.func (.func 60) #[] #[.pointer (some ⟨cb, 0, none⟩), .pointer (some ⟨lb, 0, none⟩)]) ∧ V.cell? ⟨bx, 1, none⟩ = some (.func (.func f) #[] sb) := by
  have hr := ho.row h.row h.ne
  constructor <;> (rw [cell_of_row _ _ _ _ _ _ hr]; rfl)
theorem bxs_new {f : Nat} {sb : Array Value} {cb lb g : Nat} {w : World} (hg : g < w.heap.size) : Bxs f sb cb lb g w.heap.size (w.alloc (.cells (lsA f sb cb lb) 101)) := ⟨alloc_at rfl, by omega⟩
theorem Rw.lt {W : World} {g n : Nat} {c : Nat → Nat} (h : Rw W g n c) : g < W.heap.size := lt_row h
set_option maxRecDepth 100000 in
set_option maxHeartbeats 1000000 in
theorem swapr_any (f : Nat) (sb : Array Value) (cb lb g n a b k : Nat) (c : Nat → Nat) (w : World) (hn : n < 4611686018427387904) (hS : SwapC f sb g n) (hr : Rw w g n c) (h1 : a + k ≤ b) (h2 : b + k ≤ n) :
    Calls Try.prog 80 #[.agg (lsA f sb cb lb), .int .i64 a, .int .i64 b, .int .i64 k] w fun r w' => r = .returned (.tuple #[]) ∧ Rw w' g n (swr c a b k) ∧ Only (fun x => x = g) w w' := by
  obtain ⟨w1, hw1⟩ : ∃ w1, w1 = w.alloc (.cells (lsA f sb cb lb) 101) := ⟨_, rfl⟩
  have HBX := Lib.hid (show Bxs f sb cb lb g w.heap.size w1 by rw [hw1]; exact bxs_new hr.lt)
  have HR := Lib.hid (show Rw w1 g n c by rw [hw1]; exact hr.kept ((Below.refl _ _).alloc (Nat.le_refl _) _))
  have HO1 := Lib.hid (show Only (fun x => x = g) w w1 by rw [hw1]; exact only_box _)
  have HSW := Lib.hid hS
  have HW1 := Lib.hid hw1
  clear hr hS hw1
  unfold lsA at *
  go_enter Try.func80, Try.ntmps80
  go_upto_region 1 with fail
  rw [← HW1.out]
  go_wp2
  go_loopw [8] (fun ii V => ∃ i : Nat, i ≤ k ∧ ii = .int .i64 i ∧ Rw V g n (swr c a b i) ∧ Only (fun x => x = g) w1 V) (fun ii _ => k - (intOf ii).toNat)
  case atStart => exact ⟨0, Nat.zero_le _, rfl, by rw [swr_zero]; exact HR.out, Only.refl _ _⟩
  case round =>
    obtain ⟨i, hi, rfl, hm, ho⟩ := hrel
    have HM := Lib.hid hm
    have HO := Lib.hid ho
    clear hm ho HR
    by_cases hlt : i < k
    · have t0 : decide ((i : Int) < (k : Int)) = true := decide_eq_true (by omega)
      have t0n : decide (i < k) = true := decide_eq_true hlt
      have HS := Lib.hid (swr_step c a b i (by omega))
      generalize swr c a b i = d at *
      obtain ⟨x, hx⟩ : ∃ x, x = a + i := ⟨_, rfl⟩
      obtain ⟨y, hy⟩ : ∃ y, y = b + i := ⟨_, rfl⟩
      rw [← hx, ← hy] at HS
      have w1' : IntKind.i64.wrap ((a : Int) + (i : Int)) = (x : Int) := by rw [IntKind.wrap_i64]; omega
      have w2' : IntKind.i64.wrap ((b : Int) + (i : Int)) = (y : Int) := by rw [IntKind.wrap_i64]; omega
      have w3' : IntKind.i64.wrap ((i : Int) + 1) = ((i + 1 : Nat) : Int) := by rw [IntKind.wrap_i64]; omega
      obtain ⟨V2, hrun, hE, hO2⟩ := HSW.out wr d x y HM.out (by omega) (by omega) (by omega)
      rw [HS.out] at hE
      have HE := Lib.hid hE
      have HO2 := Lib.hid (HO.out.trans hO2 (fun k hk => .inl hk))
      have HI := Lib.hid (show i + 1 ≤ k by omega)
      obtain ⟨z1, z2⟩ := HBX.out.cells HO.out
      clear hx hy hE hO2
      go_wp2
      go_roundw
      case rel => exact ⟨i + 1, HI.out, by go_num, HE.out, HO2.out⟩
      case measure => have := HI.out; simp [intOf]; omega
    · have t0 : decide ((i : Int) < (k : Int)) = false := decide_eq_false (by omega)
      have t0n : decide (i < k) = false := decide_eq_false hlt
      have HE := Lib.hid (show Rw wr g n (swr c a b k) by have h := HM.out; rw [show i = k by omega] at h; exact h)
      go_wp2
      exact bodyPost_end (results_none Try.results80 _ _ _) rfl ⟨rfl, HE.out, HO1.out.trans HO.out (fun k hk => .inl hk)⟩
end Go.Proofs.Ytdkfaicmdbhonaa
