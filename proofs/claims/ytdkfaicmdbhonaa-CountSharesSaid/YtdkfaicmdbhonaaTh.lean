/-
  Layer 1: sort.SliceStable over places, by what is left of each.
-/
import Derived.Test.YtdkfaicmdbhonaaTg
import Derived.Deep.QuietTactic
import Derived.BigQuiet
import Derived.Laws.Externs
import Derived.Lib.ReflectliteSlice
import Derived.Lib.ReflectliteSwap
namespace Go.Proofs.Ytdkfaicmdbhonaa
open Go.RowKit Go.K Go.Stab Go.Lib
set_option linter.unusedVariables false
set_option linter.unusedSimpArgs false
/-- A row of numbers of 64 bits. -/
def rowQ (r : Nat → Nat) (n : Nat) : List Value := (List.range n).map fun k => Value.int .u64 (r k : Int)
def Rq (W : World) (g n : Nat) (r : Nat → Nat) : Prop := W.heap[g]? = some (.cells (rowQ r n).toArray 24)
theorem rowQ_len (c : Nat → Nat) (n : Nat) : (rowQ c n).length = n := by unfold rowQ; simp
theorem Rq.cell {W : World} {g n : Nat} {c : Nat → Nat} (h : Rq W g n c) (k : Nat) (hk : k < n) : W.cell? ⟨g, k, none⟩ = some (.int .u64 (c k)) := by
  rw [cell_of_row _ _ _ _ _ _ h]
  simp [rowQ, hk]
theorem Rq.kept {W W' : World} {g n : Nat} {c : Nat → Nat} (h : Rq W g n c) (hb : Below W.heap.size W W') : Rq W' g n c := row_kept h hb
/-- Is what is left of one place greater? -/
def moreL (r : Nat → Nat) (x y : Nat) : Bool := decide (r y < r x)
theorem less_any (r : Nat → Nat) (g gr cb lb n : Nat) (w : World) (hcb : w.cell? ⟨cb, 0, none⟩ = some (.slice (some ⟨gr, 0, none⟩) n n)) (hlb : w.cell? ⟨lb, 0, none⟩ = some (.slice (some ⟨g, 0, none⟩) n n)) (hr : Rq w gr n r)
    (n1 : cb ≠ g) (n2 : lb ≠ g) (n3 : gr ≠ g) : LessC (moreL r) n n g cb lb w := by
  intro V d ho hd hN i j hi hj
  have k1 : V.cell? ⟨cb, 0, none⟩ = some (.slice (some ⟨gr, 0, none⟩) n n) := ho.cell hcb n1
  have k2 : V.cell? ⟨lb, 0, none⟩ = some (.slice (some ⟨g, 0, none⟩) n n) := ho.cell hlb n2
  have hr2 : Rq V gr n r := ho.row hr n3
  have z1 := hd.cell i hi
  have z2 := hd.cell j hj
  have z3 := hr2.cell (d i) (hN i hi)
  have z4 := hr2.cell (d j) (hN j hj)
  have i1 : (i : Int) < (n : Int) := by omega
  have i2 : (j : Int) < (n : Int) := by omega
  have i3 : (d i : Int) < (n : Int) := by have := hN i hi; omega
  have i4 : (d j : Int) < (n : Int) := by have := hN j hj; omega
  obtain ⟨tb, htb⟩ : ∃ tb, decide ((r (d j) : Int) < (r (d i) : Int)) = tb := ⟨_, rfl⟩
  have HTB := Lib.hid (show moreL r (d i) (d j) = tb by unfold moreL; rw [← htb]; exact decide_eq_decide.2 (by omega))
  have htb2 : decide (r (d j) < r (d i)) = tb := HTB.out
  rw [HTB.out]
  clear ho hd hN hr2 hcb hlb hr n1 n2 n3 hi hj
  generalize r (d i) = vi at *
  generalize r (d j) = vj at *
  generalize d i = x at *
  generalize d j = y at *
  go_enter Try.func60, Try.ntmps60
  go_wp2
  go_quiet (fail)
  go_wp2
  go_ret
  exact ⟨rfl, ⟨_, rfl⟩⟩
noncomputable def siT : TypeInfo := (Try.prog.info? 84).get (by kernel_rfl)
noncomputable def siE : TypeInfo := (Try.prog.info? 3).get (by kernel_rfl)
theorem siT_at : Try.prog.info? 84 = some siT := by kernel_rfl
theorem siT_desc : siT.desc = .slice 3 := by kernel_rfl
theorem siE_at : Try.prog.info? 3 = some siE := by kernel_rfl
theorem siK (n : Nat) (h2 : 2 ≤ n) : Lib.swapperK n siE 2 = 5 := by
  have a : siE.hasPointers = false := by kernel_rfl
  have b : siE.bytes = 8 := by kernel_rfl
  have c : (n == 0) = false := by simp; omega
  have d : (n == 1) = false := by simp; omega
  simp [Lib.swapperK, a, b, c, d]
theorem siK1 : Lib.swapperK 1 siE 2 = 2 := by simp [Lib.swapperK]
theorem kind3 : ∀ w, (Extern.Rtype.kind 3).run Try.prog w = .ok 2 w := fun _ => by kernel_rfl
def swF (n : Nat) : Nat := if n ≤ 1 then 69 else 72
noncomputable def swB (g n : Nat) : Array Value := if n ≤ 1 then #[] else #[.slice (some ⟨g, 0, none⟩) n n, typeHandle Try.prog 3]
theorem rowN_set (c : Nat → Nat) (n k v : Nat) (hk : k < n) : (rowN c n).toArray.setIfInBounds k (Value.int .i64 (v : Int)) = (rowN (upd c k v) n).toArray := by
  apply Array.ext
  · simp [rowN]
  · intro i h1 h2
    simp only [Array.size_setIfInBounds, List.size_toArray, rowN_len] at h1
    rw [Array.getElem_setIfInBounds (by simpa [rowN] using h1)]
    simp [rowN, upd]
    by_cases e : k = i
    · rw [if_pos e, if_pos e.symm]
    · rw [if_neg e, if_neg (fun h => e h.symm)]
theorem swap_any (g n : Nat) : SwapC (swF n) (swB g n) g n := by
  intro V d i j hr hi hj hne
  have h2 : ¬ n ≤ 1 := by omega
  unfold swF swB
  rw [if_neg h2, if_neg h2]
  have ci := hr.cell i hi
  have cj := hr.cell j hj
  have fi := frozen_of_row _ _ i _ _ hr
  have fj := frozen_of_row _ _ j _ _ hr
  have hx := run_callFunc_extern (P := Try.prog) Try.func72 (by kernel_rfl) (by kernel_rfl) (by kernel_rfl) (e := Extern.ReflectliteSwapper.swap true) (by kernel_rfl) #[.int .i64 (i : Int), .int .i64 (j : Int), .slice (some ⟨g, 0, none⟩) n n, typeHandle Try.prog 3] V
  have hs := run_swap_one (P := Try.prog) true 3 siE siE_at (by kernel_rfl) (fun _ => by kernel_rfl) g 0 n n i j hi hj (.int .i64 (d i)) (.int .i64 (d j)) rfl rfl V (by rw [Nat.zero_add]; exact ci) (by rw [Nat.zero_add]; exact cj) (by rw [Nat.zero_add]; exact fi) (by rw [Nat.zero_add]; exact fj)
  rw [Nat.zero_add, Nat.zero_add] at hs
  rw [hs] at hx
  refine ⟨_, hx, ?_, ?_⟩
  · have h1 : (V.setCell ⟨g, i, none⟩ (.int .i64 (d j))).heap[g]? = some (.cells ((rowN d n).toArray.setIfInBounds i (.int .i64 (d j))) 3) := heap_setCell_same _ _ _ _ _ _ hr
    rw [rowN_set d n i (d j) hi] at h1
    have h3 : ((V.setCell ⟨g, i, none⟩ (.int .i64 (d j))).setCell ⟨g, j, none⟩ (.int .i64 (d i))).heap[g]? = some (.cells ((rowN (upd d i (d j)) n).toArray.setIfInBounds j (.int .i64 (d i))) 3) := heap_setCell_same _ _ _ _ _ _ h1
    rw [rowN_set _ n j (d i) hj, upd_swp] at h3
    exact h3
  · exact Only.of_grown (S := fun k => k = g) (grown_set (grown_set (grown_refl V (some g)) i _) j _) (fun k hk => by injection hk with e; exact e.symm)
theorem sz95 : (Try.prog.info? 95).map (·.size) = some 3 := by kernel_rfl
set_option maxRecDepth 100000 in
set_option maxHeartbeats 1000000 in
theorem slicest_any (L : Nat → Nat → Bool) (T : Nat → Nat → Prop) (htr : ∀ x y z, T x y → T y z → T x z) (g n cb lb N : Nat) (c0 : Nat → Nat) (w : World) (h1 : 1 ≤ n) (hn : n < 576460752303423488) (hr : Rw w g n c0)
    (hN : ∀ k, k < n → c0 k < N) (hC : LessC L N n g cb lb w) (h0 : ∀ x y, x < y → y < n → (L (c0 y) (c0 x) = true → T (c0 y) (c0 x)) ∧ (L (c0 y) (c0 x) = false → T (c0 x) (c0 y))) :
    Calls Try.prog 59 #[.iface 84 (.slice (some ⟨g, 0, none⟩) n n), .func (.func 60) #[] #[.pointer (some ⟨cb, 0, none⟩), .pointer (some ⟨lb, 0, none⟩)]] w fun r w' => r = .returned (.tuple #[]) ∧ Only (fun x => x = g) w w' ∧ ∃ d, Rw w' g n d ∧ Srt T d 0 n ∧ Prm c0 d 0 n := by
  have e63 : (callFunc 63 #[.iface 84 (.slice (some ⟨g, 0, none⟩) n n)]).run Try.prog w = .ok (.value (.agg #[typeHandle Try.prog 84, .pointer (some ⟨w.heap.size, 0, none⟩), .int .u64 151])) (w.alloc (.cells #[.slice (some ⟨g, 0, none⟩) n n] 84)) := by
    rw [run_callFunc_extern Try.func63 (by kernel_rfl) (by kernel_rfl) (by kernel_rfl) (e := fun args => Extern.ReflectliteValue.unpack (args.getD 0 (.tuple #[]))) (by kernel_rfl)]
    rw [show Sem.run Try.prog ((fun args : Array Value => Extern.ReflectliteValue.unpack (args.getD 0 (.tuple #[]))) #[.iface 84 (.slice (some ⟨g, 0, none⟩) n n)]) w = _ from run_valueOf_slice 84 3 siT siT_at siT_desc (some ⟨g, 0, none⟩) n n w]
    rfl
  have e64 : ∀ W, (callFunc 64 #[.iface 84 (.slice (some ⟨g, 0, none⟩) n n)]).run Try.prog W = .ok (.value (.func (.func (swF n)) #[] (swB g n))) W := fun W => by
    rw [run_callFunc_extern Try.func64 (by kernel_rfl) (by kernel_rfl) (by kernel_rfl) (e := Extern.ReflectliteSwapper.swapper "internal/reflectlite" (Extern.ReflectliteValue.valueError "Swapper")) (by kernel_rfl)]
    by_cases h : n ≤ 1
    · have e1 : n = 1 := by omega
      subst e1
      rw [run_swapper_slice 84 3 siT siE siT_at siT_desc siE_at 2 kind3 _ 1 1 69 (by rw [siK1]; kernel_rfl) W, siK1]
      rfl
    · rw [run_swapper_slice 84 3 siT siE siT_at siT_desc siE_at 2 kind3 _ n n 72 (by rw [siK n (by omega)]; kernel_rfl) W, siK n (by omega)]
      unfold swF swB
      rw [if_neg h, if_neg h]
      rfl
  have e66 : ∀ (W : World) (a : Addr), W.cell? a = some (.slice (some ⟨g, 0, none⟩) n n) → (callFunc 66 #[.agg #[typeHandle Try.prog 84, .pointer (some a), .int .u64 151]]).run Try.prog W = .ok (.value (.int .i64 n)) W := fun W a ha => by
    rw [run_callFunc_extern Try.func66 (by kernel_rfl) (by kernel_rfl) (by kernel_rfl) (e := Extern.ReflectliteValue.method (Extern.ReflectliteValue.valueError "reflectlite.Value.Len" 0) Extern.ReflectliteValue.len) (by kernel_rfl)]
    rw [run_valueLen_slice 84 3 siT siT_at siT_desc (by kernel_rfl) a _ n n W ha]
    rfl
  have HS := Lib.hid (swap_any g n)
  obtain ⟨w1, hw1⟩ : ∃ w1, w1 = w.alloc (.cells #[.slice (some ⟨g, 0, none⟩) n n] 84) := ⟨_, rfl⟩
  rw [← hw1] at e63
  have hz1 : w1.heap.size = w.heap.size + 1 := by rw [hw1]; simp
  have HO1 := Lib.hid (show Only (fun x => x = g) w w1 by rw [hw1]; exact only_box _)
  have hc1 : w1.heap[w.heap.size]? = some (.cells #[.slice (some ⟨g, 0, none⟩) n n] 84) := by rw [hw1]; exact alloc_at rfl
  have HRA := Lib.hid (show Rw w1 g n c0 by rw [hw1]; exact hr.kept ((Below.refl _ _).alloc (Nat.le_refl _) _))
  have HR := Lib.hid hr
  have HC := Lib.hid hC
  have HN := Lib.hid hN
  have H0 := Lib.hid h0
  have HC1 := Lib.hid hc1
  clear hr hC hN h0 hw1 hc1
  generalize swF n = fs at *
  generalize swB g n = sb at *
  unfold typeHandle at e63 e66
  generalize Try.prog.globals.size = gs at *
  go_enter Try.func59, Try.ntmps59
  go_upto_region 1 with fail
  obtain ⟨w2, hw2⟩ : ∃ w2, w2 = w1.alloc (.cells #[.pointer (some ⟨gs, 84, none⟩), .pointer (some ⟨w.heap.size, 0, none⟩), .int .u64 151] 95) := ⟨_, rfl⟩
  rw [← hw2]
  have hO2 : Only (fun x => x = g) w1 w2 := by rw [hw2]; exact only_box _
  have HO2 := Lib.hid (HO1.out.trans hO2 (fun k hk => .inl hk))
  have hgl : g < w.heap.size := HR.out.lt
  have hc2 : w2.cell? ⟨w.heap.size, 0, none⟩ = some (.slice (some ⟨g, 0, none⟩) n n) := by
    have h := hO2.row HC1.out (by show ¬ (w.heap.size = g); omega)
    rw [cell_of_row _ _ _ _ _ _ h]; rfl
  have ex66 := e66 w2 _ hc2
  have hr2 : w2.heap[w.heap.size + 1]? = some (.cells #[.pointer (some ⟨gs, 84, none⟩), .pointer (some ⟨w.heap.size, 0, none⟩), .int .u64 151] 95) := by rw [hw2]; exact alloc_at hz1.symm
  have y0 : w2.cell? ⟨w.heap.size + 1, 0, none⟩ = some (.pointer (some ⟨gs, 84, none⟩)) := by rw [cell_of_row _ _ _ _ _ _ hr2]; rfl
  have y1 : w2.cell? ⟨w.heap.size + 1, 1, none⟩ = some (.pointer (some ⟨w.heap.size, 0, none⟩)) := by rw [cell_of_row _ _ _ _ _ _ hr2]; rfl
  have y2 : w2.cell? ⟨w.heap.size + 1, 2, none⟩ = some (.int .u64 151) := by rw [cell_of_row _ _ _ _ _ _ hr2]; rfl
  have K := Lib.hid (stablef_any L T htr fs sb cb lb g n N c0 w2 hn HS.out (by
    rw [hw2]
    exact HRA.out.kept ((Below.refl _ _).alloc (Nat.le_refl _) _)) HN.out (HC.out.only HO2.out) H0.out)
  unfold lsA at K
  clear e66 hc2 hO2 hw2 hr2 hz1
  go_wp2_with (go_at_call 65; (with_reducible refine K.out.mono ?_); rintro e w9 ⟨rfl, h9⟩; have H9 := Lib.hid h9; clear h9)
  exact bodyPost_end (results_none Try.results59 _ _ _) rfl ⟨rfl, HO2.out.trans H9.out.1 (fun k hk => .inl hk), H9.out.2⟩
end Go.Proofs.Ytdkfaicmdbhonaa
