/-
  Layer 19: who deals, and at what: the first of both ranks, cloned.
-/
import Derived.Test.YtbggibdldadpiaaHb
import Derived.Deep.RegionHeld3
namespace Go.Proofs.Ytbggibdldadpiaa
open Go.RowKit Go.K
open Go.Stab (swp rot Srt Prm Out)
set_option linter.unusedVariables false
set_option linter.unusedSimpArgs false
theorem eql24 (a : Option Addr) (n c : Nat) (w : World) : (binOp .eql 24 (.slice a n c) (.slice none 0 0)).run Try.prog w = .ok (.bool a.isNone) w := by
  simp only [binOp]
  simp [run_equal_slice_nil w 24 3 a n c Try.underlying24]
theorem infoI3 : ∃ i, Try.prog.info? 3 = some i := by
  obtain ⟨i, h, _⟩ := info_parts infoI
  exact ⟨i, h⟩
/-- A list cloned: memory of its own. -/
theorem clone_any (x : Addr) (c n : Nat) (vs : List Value) (w : World) (hl : n ≤ 17592186043904) (hvs : vs.length = n) (h1 : ∀ v ∈ vs, v.oneCell' = true) (hs : Sl w (some x) vs) :
    Calls Try.prog 51 #[.slice (some x) n c] w fun r w' => ∃ a' c', r = .returned (.slice a' n c') ∧ w'.ownsRow w.heap.size 3 1 (.slice a' n c') n vs ∧ Below w.heap.size w w' := by
  have HS := Lib.hid hs
  have HO1 := Lib.hid h1
  have HV := Lib.hid hvs
  clear hs h1 hvs
  have hnil := eql24 (some x)
  go_enter Try.func51, Try.ntmps51
  have HB := Lib.hid ((Below.refl w.heap.size w).alloc (Nat.le_refl _) (.cells #[] 3))
  have HO := Lib.hid (show (w.alloc (.cells #[] 3)).ownsRow w.heap.size 3 1 (.slice (some ⟨w.heap.size, 0, none⟩) 0 0) 0 [] from ⟨rfl, .inr ⟨w.heap.size, 0, #[], rfl, Nat.le_refl _, alloc_at rfl, Nat.le_refl _, Nat.zero_le _, rfl, rfl⟩⟩)
  have h63 : 0 + n ≤ maxLen := by unfold maxLen; omega
  have hby : (0 + n) * 8 ≤ 140737488355328 := by omega
  go_wp2_with (at_builtin; refine wpList_append_sl rfl _ _ 24 rfl w.heap.size 3 (.int .i64 0) 1 8 Try.underlying24 infoI (by rfl) (by decide) (.slice (some ⟨w.heap.size, 0, none⟩) 0 0) 0 [] (by rfl) HO.out (some x) n c vs (by rfl) (fun h => by cases h) (by rw [HV.out]; omega) (HS.out.kept HB.out) HO1.out h63 hby HB.out.size ?a9)
  intro v1 w1 ho hg
  have HO2 := Lib.hid (show w1.ownsRow w.heap.size 3 1 v1 n vs by simpa using ho)
  have HB1 := Lib.hid (HB.out.grown hg HB.out.size (fun k hk => by cases hk; exact Nat.le_refl _))
  clear ho hg
  obtain ⟨a', c', rfl, _⟩ := owns_slice HO2.out
  go_wp2
  go_ret
  exact ⟨a', c', rfl, HO2.out, HB1.out⟩
theorem sz27 : (Try.prog.info? 27).map (·.size) = some 4 := by kernel_rfl
def dlA (a1 : Option Addr) (c1 : Nat) (a2 : Option Addr) (c2 n pay get : Nat) : Array Value := #[.slice a1 n c1, .slice a2 n c2, .int .u64 pay, .int .u64 get]
/-- A deal: two lists in memory of their own, the second one's block behind the first one's. -/
def DealV (n : Nat) (da db : Nat → Nat) (pay get B : Nat) (W : World) (v : Value) : Prop := ∃ a1 c1 a2 c2 M, v = .agg (dlA a1 c1 a2 c2 n pay get) ∧ B ≤ M ∧ W.ownsRow B 3 1 (.slice a1 n c1) n (rowN da n) ∧ (∀ k, (Value.slice a1 n c1).ownBlock = some k → k < M) ∧ W.ownsRow M 3 1 (.slice a2 n c2) n (rowN db n)
theorem rowN_one (d : Nat → Nat) (n : Nat) : ∀ v ∈ rowN d n, v.oneCell' = true := by
  intro v hv
  unfold rowN at hv
  obtain ⟨k, _, rfl⟩ := List.mem_map.1 hv
  rfl
theorem Rw.sl {W : World} {g n : Nat} {d : Nat → Nat} (h : Rw W g n d) (m : Nat) (hm : m ≤ n) : Sl W (some ⟨g, 0, none⟩) (rowN d m) := fun _ => ⟨g, 0, rfl, fun i hi => by
  rw [rowN_len] at hi
  rw [Nat.zero_add, h.cell i (by omega)]
  simp [rowN, hi]⟩
/-- What stands while a deal is made. -/
structure FsA (na nb : Nat) (da db : Nat → Nat) (aa ba : Option Addr) (ca cb ga gb k bx rs : Nat) (w V : World) : Prop where
  row : V.heap[bx]? = some (.cells (bkA aa ca na ba cb nb ga gb k) 65)
  res : V.heap[rs]? = some (.cells #[.slice none 0 0, .slice none 0 0, .int .u64 0, .int .u64 0] 27)
  ra : Rw V ga na da
  rb : Rw V gb nb db
  bel : Below w.heap.size w V
theorem FsA.kept {na nb : Nat} {da db : Nat → Nat} {aa ba : Option Addr} {ca cb ga gb k bx rs : Nat} {w V V' : World} (h : FsA na nb da db aa ba ca cb ga gb k bx rs w V) (hb : Below V.heap.size V V') : FsA na nb da db aa ba ca cb ga gb k bx rs w V' :=
  ⟨row_kept h.row hb, row_kept h.res hb, h.ra.kept hb, h.rb.kept hb, h.bel.trans (hb.mono h.bel.size)⟩
theorem FsA.cells {na nb : Nat} {da db : Nat → Nat} {aa ba : Option Addr} {ca cb ga gb k bx rs : Nat} {w V : World} (h : FsA na nb da db aa ba ca cb ga gb k bx rs w V) : V.cell? ⟨bx, 2, none⟩ = some (.slice (some ⟨ga, 0, none⟩) na na) ∧ V.cell? ⟨bx, 3, none⟩ = some (.slice (some ⟨gb, 0, none⟩) nb nb) := by
  constructor <;> (rw [cell_of_row _ _ _ _ _ _ h.row]; rfl)
theorem FsA.res4 {na nb : Nat} {da db : Nat → Nat} {aa ba : Option Addr} {ca cb ga gb k bx rs : Nat} {w V : World} (h : FsA na nb da db aa ba ca cb ga gb k bx rs w V) : V.cell? ⟨rs, 0, none⟩ = some (.slice none 0 0) ∧ V.cell? ⟨rs, 1, none⟩ = some (.slice none 0 0) ∧ V.cell? ⟨rs, 2, none⟩ = some (.int .u64 0) ∧ V.cell? ⟨rs, 3, none⟩ = some (.int .u64 0) := by
  refine ⟨?_, ?_, ?_, ?_⟩ <;> (rw [cell_of_row _ _ _ _ _ _ h.res]; rfl)
theorem FsA.open4 {na nb : Nat} {da db : Nat → Nat} {aa ba : Option Addr} {ca cb ga gb k bx rs : Nat} {w V : World} (h : FsA na nb da db aa ba ca cb ga gb k bx rs w V) : (V.cell? ⟨rs, 0, none⟩).isSome = true ∧ (V.cell? ⟨rs, 1, none⟩).isSome = true ∧ (V.cell? ⟨rs, 2, none⟩).isSome = true ∧ (V.cell? ⟨rs, 3, none⟩).isSome = true ∧
    V.frozen? ⟨rs, 0, none⟩ = false ∧ V.frozen? ⟨rs, 1, none⟩ = false ∧ V.frozen? ⟨rs, 2, none⟩ = false ∧ V.frozen? ⟨rs, 3, none⟩ = false := by
  obtain ⟨r0, r1, r2, r3⟩ := h.res4
  exact ⟨by rw [r0]; rfl, by rw [r1]; rfl, by rw [r2]; rfl, by rw [r3]; rfl, frozen_of_row _ _ 0 _ _ h.res, frozen_of_row _ _ 1 _ _ h.res, frozen_of_row _ _ 2 _ _ h.res, frozen_of_row _ _ 3 _ _ h.res⟩
theorem run_store27 {V : World} {rs : Nat} (v0 v1 v2 v3 u0 u1 u2 u3 : Value) (k0 : v0.cells = #[v0]) (k1 : v1.cells = #[v1]) (k2 : v2.cells = #[v2]) (k3 : v3.cells = #[v3]) (h0 : v0.oneCell' = true) (h1 : v1.oneCell' = true) (h2 : v2.oneCell' = true) (h3 : v3.oneCell' = true) (h : V.heap[rs]? = some (.cells #[u0, u1, u2, u3] 27)) :
    (Instr.storeAt 27 (.pointer (some ⟨rs, 0, none⟩)) (.agg #[v0, v1, v2, v3])).run Try.prog V = .ok () (V.setRow rs #[v0, v1, v2, v3]) ∧ Put V rs (.cells #[v0, v1, v2, v3] 27) (V.setRow rs #[v0, v1, v2, v3]) := by
  refine ⟨run_storeAt_seg (P := Try.prog) 27 rs 0 #[u0, u1, u2, u3] #[v0, v1, v2, v3] (.agg #[v0, v1, v2, v3]) 27 h (Nat.le_of_ble_eq_true rfl) sz27 ?_ rfl, put_setRow h⟩
  simp [Value.cells, h0, h1, h2, h3]
theorem four27 {V : World} {rs : Nat} (v0 v1 v2 v3 u0 u1 u2 u3 : Value) (h : V.heap[rs]? = some (.cells #[u0, u1, u2, u3] 27)) :
    V.cell? ⟨rs, 0, none⟩ = some u0 ∧ V.frozen? ⟨rs, 0, none⟩ = false ∧ (V.setCell ⟨rs, 0, none⟩ v0).cell? ⟨rs, 1, none⟩ = some u1 ∧ (V.setCell ⟨rs, 0, none⟩ v0).frozen? ⟨rs, 1, none⟩ = false ∧
    ((V.setCell ⟨rs, 0, none⟩ v0).setCell ⟨rs, 1, none⟩ v1).cell? ⟨rs, 2, none⟩ = some u2 ∧ ((V.setCell ⟨rs, 0, none⟩ v0).setCell ⟨rs, 1, none⟩ v1).frozen? ⟨rs, 2, none⟩ = false ∧
    (((V.setCell ⟨rs, 0, none⟩ v0).setCell ⟨rs, 1, none⟩ v1).setCell ⟨rs, 2, none⟩ v2).cell? ⟨rs, 3, none⟩ = some u3 ∧ (((V.setCell ⟨rs, 0, none⟩ v0).setCell ⟨rs, 1, none⟩ v1).setCell ⟨rs, 2, none⟩ v2).frozen? ⟨rs, 3, none⟩ = false ∧
    ((((V.setCell ⟨rs, 0, none⟩ v0).setCell ⟨rs, 1, none⟩ v1).setCell ⟨rs, 2, none⟩ v2).setCell ⟨rs, 3, none⟩ v3).heap[rs]? = some (.cells #[v0, v1, v2, v3] 27) := by
  have r1 : (V.setCell ⟨rs, 0, none⟩ v0).heap[rs]? = some (.cells #[v0, u1, u2, u3] 27) := heap_setCell_same _ _ 0 _ _ _ h
  have r2 : ((V.setCell ⟨rs, 0, none⟩ v0).setCell ⟨rs, 1, none⟩ v1).heap[rs]? = some (.cells #[v0, v1, u2, u3] 27) := heap_setCell_same _ _ 1 _ _ _ r1
  have r3 : (((V.setCell ⟨rs, 0, none⟩ v0).setCell ⟨rs, 1, none⟩ v1).setCell ⟨rs, 2, none⟩ v2).heap[rs]? = some (.cells #[v0, v1, v2, u3] 27) := heap_setCell_same _ _ 2 _ _ _ r2
  have r4 : ((((V.setCell ⟨rs, 0, none⟩ v0).setCell ⟨rs, 1, none⟩ v1).setCell ⟨rs, 2, none⟩ v2).setCell ⟨rs, 3, none⟩ v3).heap[rs]? = some (.cells #[v0, v1, v2, v3] 27) := heap_setCell_same _ _ 3 _ _ _ r3
  exact ⟨by rw [cell_of_row _ _ _ _ _ _ h]; rfl, frozen_of_row _ _ 0 _ _ h, by rw [cell_of_row _ _ _ _ _ _ r1]; rfl, frozen_of_row _ _ 1 _ _ r1, by rw [cell_of_row _ _ _ _ _ _ r2]; rfl, frozen_of_row _ _ 2 _ _ r2, by rw [cell_of_row _ _ _ _ _ _ r3]; rfl, frozen_of_row _ _ 3 _ _ r3, r4⟩
theorem first_zero (na nb pay get : Nat) (aa ba : Option Addr) (ca cb ga gb k : Nat) (w : World) :
    Calls Try.prog 34 #[.agg (bkA aa ca na ba cb nb ga gb k), .int .i64 0, .int .u64 pay, .int .u64 get] w fun r w' => r = .returned (.agg (dlA none 0 none 0 0 0 0)) ∧ Below w.heap.size w w' := by
  have HB := Lib.hid (((Below.refl w.heap.size w).alloc (Nat.le_refl _) (.cells (bkA aa ca na ba cb nb ga gb k) 65)).alloc (by simp) (.cells #[.slice none 0 0, .slice none 0 0, .int .u64 0, .int .u64 0] 27))
  have HZ := Lib.hid (show ((w.alloc (.cells (bkA aa ca na ba cb nb ga gb k) 65)).alloc (.cells #[.slice none 0 0, .slice none 0 0, .int .u64 0, .int .u64 0] 27)).heap[w.heap.size + 1]? = some (.cells #[.slice none 0 0, .slice none 0 0, .int .u64 0, .int .u64 0] 27) from alloc_at (by simp))
  go_enter Try.func34, Try.ntmps34
  go_wp2_with ((with_reducible refine at_store_op ?_); refine wpList_store_lit 27 (w.heap.size + 1) 0 (dlA none 0 none 0 0 0 0) (.agg (dlA none 0 none 0 0 0 0)) HZ.out sz27 (Nat.le_of_ble_eq_true rfl) rfl rfl ?_ ?_ ?_; exact rfl; exact rfl; intro w4 hp4; have HP := Lib.hid hp4; clear hp4)
  exact bodyPost_ret (results_row_one Try.results34 _ _ (w.heap.size + 1) 27 _ _ _ rfl HP.out.at' Try.underlying27 rfl sz27) rfl ⟨rfl, HP.out.below HB.out HB.out.size (by omega)⟩
theorem middle_any (x y : Nat) (w : World) (hx : x ≤ y) (hy : y < 18446744073709551616) : Calls Try.prog 33 #[.int .u64 x, .int .u64 y] w fun r w' => r = .returned (.int .u64 ((x + (y - x) / 2 : Nat) : Int)) ∧ w = w' := by
  obtain ⟨d, hd⟩ : ∃ d, d = y - x := ⟨_, rfl⟩
  obtain ⟨h, hh⟩ : ∃ h, h = d / 2 := ⟨_, rfl⟩
  have e : x + (y - x) / 2 = x + h := by omega
  rw [e]
  have w1 : IntKind.u64.wrap ((y : Int) - (x : Int)) = (d : Int) := by rw [IntKind.wrap_u64]; omega
  have w2 : (d : Int) / 2 = (h : Int) := by omega
  have w3 : IntKind.u64.wrap ((x : Int) + (h : Int)) = ((x + h : Nat) : Int) := by rw [IntKind.wrap_u64]; omega
  have w4 : IntKind.u64.wrap (h : Int) = (h : Int) := by rw [IntKind.wrap_u64]; omega
  obtain ⟨s, hs⟩ : ∃ s, s = x + h := ⟨_, rfl⟩
  rw [← hs] at w3 ⊢
  clear hd hh e hs hx hy
  go_enter Try.func33, Try.ntmps33
  go_wp2
  go_ret
  exact ⟨rfl, rfl⟩
set_option maxRecDepth 100000 in
set_option maxHeartbeats 4000000 in
theorem first_any (na nb n pay get : Nat) (da db : Nat → Nat) (aa ba : Option Addr) (ca cb ga gb k : Nat) (w : World) (h0 : 0 < n) (hna : n ≤ na) (hnb : n ≤ nb) (hma : na ≤ 17592186043904) (hmb : nb ≤ 17592186043904) (ra : Rw w ga na da) (rb : Rw w gb nb db) :
    Calls Try.prog 34 #[.agg (bkA aa ca na ba cb nb ga gb k), .int .i64 n, .int .u64 pay, .int .u64 get] w fun r w' => ∃ v, r = .returned v ∧ DealV n da db pay get w.heap.size w' v ∧ Below w.heap.size w w' := by
  have t0 : ((n : Int) == 0) = false := by rw [beq_eq_false_iff_ne]; omega
  have ia : (n : Int) ≤ (na : Int) := by omega
  have ib : (n : Int) ≤ (nb : Int) := by omega
  have HF := Lib.hid (show FsA na nb da db aa ba ca cb ga gb k w.heap.size (w.heap.size + 1) w ((w.alloc (.cells (bkA aa ca na ba cb nb ga gb k) 65)).alloc (.cells #[.slice none 0 0, .slice none 0 0, .int .u64 0, .int .u64 0] 27)) from
    ⟨alloc_old (alloc_at rfl), alloc_at (by simp), (ra.kept ((Below.refl _ _).alloc (Nat.le_refl _) _)).kept ((Below.refl _ _).alloc (Nat.le_refl _) _), (rb.kept ((Below.refl _ _).alloc (Nat.le_refl _) _)).kept ((Below.refl _ _).alloc (Nat.le_refl _) _), ((Below.refl _ _).alloc (Nat.le_refl _) _).alloc (by simp) _⟩)
  have HCA := Lib.hid (show ∀ V, FsA na nb da db aa ba ca cb ga gb k w.heap.size (w.heap.size + 1) w V → Calls Try.prog 51 #[.slice (some ⟨ga, 0, none⟩) n na] V fun r w' => ∃ a' c', r = .returned (.slice a' n c') ∧ w'.ownsRow V.heap.size 3 1 (.slice a' n c') n (rowN da n) ∧ Below V.heap.size V w' from fun V h =>
    clone_any _ na n _ V (by omega) (rowN_len da n) (rowN_one da n) (h.ra.sl n hna))
  have HCB := Lib.hid (show ∀ V, FsA na nb da db aa ba ca cb ga gb k w.heap.size (w.heap.size + 1) w V → Calls Try.prog 51 #[.slice (some ⟨gb, 0, none⟩) n nb] V fun r w' => ∃ a' c', r = .returned (.slice a' n c') ∧ w'.ownsRow V.heap.size 3 1 (.slice a' n c') n (rowN db n) ∧ Below V.heap.size V w' from fun V h =>
    clone_any _ nb n _ V (by omega) (rowN_len db n) (rowN_one db n) (h.rb.sl n hnb))
  clear ra rb
  go_enter Try.func34, Try.ntmps34
  go_upto_region 3 with fail
  have HS1 := Lib.hid (show ((w.alloc (.cells (bkA aa ca na ba cb nb ga gb k) 65)).alloc (.cells #[.slice none 0 0, .slice none 0 0, .int .u64 0, .int .u64 0] 27)).heap.size = w.heap.size + 1 + 1 by simp)
  generalize (w.alloc (.cells (bkA aa ca na ba cb nb ga gb k) 65)).alloc (.cells #[.slice none 0 0, .slice none 0 0, .int .u64 0, .int .u64 0] 27) = w1 at *
  have hAt : FsA na nb da db aa ba ca cb ga gb k w.heap.size (w.heap.size + 1) w w1.drew := HF.out.kept ((Qt.drewN w1 1).below _)
  obtain ⟨z1, z2⟩ := HF.out.cells
  clear HF
  have hne : w.heap.size ≠ w.heap.size + 1 := by omega
  go_region_held3 (fun V => V.cell? ⟨w.heap.size, 2, none⟩ = some (.slice (some ⟨ga, 0, none⟩) na na) ∧ V.cell? ⟨w.heap.size, 3, none⟩ = some (.slice (some ⟨gb, 0, none⟩) nb nb)) (go_keep)
    ((first
      | (go_at_call 51; (with_reducible refine (HCA.out _ hAt).mono ?_); rintro e w2 ⟨a1, c1, rfl, ho1, hb2⟩; have hAt2 := hAt.kept hb2; have q0 := hAt2.cells.1; have q1 := hAt2.cells.2)
      | (go_at_call 51; (with_reducible refine (HCB.out _ hAt2).mono ?_); rintro e w3 ⟨a2, c2, rfl, ho2, hb3⟩; have hAt3 := hAt2.kept hb3; have q2 := hAt3.cells.1; have q3 := hAt3.cells.2; obtain ⟨x0, y0, x1, y1, x2, y2, x3, y3, hrow4⟩ := four27 (.slice a1 n c1) (.slice a2 n c2) (.int .u64 pay) (.int .u64 get) _ _ _ _ hAt3.res)))
  have hgr : w3.grownBy ((((w3.setCell ⟨w.heap.size + 1, 0, none⟩ (.slice a1 n c1)).setCell ⟨w.heap.size + 1, 1, none⟩ (.slice a2 n c2)).setCell ⟨w.heap.size + 1, 2, none⟩ (.int .u64 pay)).setCell ⟨w.heap.size + 1, 3, none⟩ (.int .u64 get)) (some (w.heap.size + 1)) :=
    grown_set (grown_set (grown_set (grown_set (grown_refl w3 (some (w.heap.size + 1))) 0 _) 1 _) 2 _) 3 _
  generalize (((w3.setCell ⟨w.heap.size + 1, 0, none⟩ (.slice a1 n c1)).setCell ⟨w.heap.size + 1, 1, none⟩ (.slice a2 n c2)).setCell ⟨w.heap.size + 1, 2, none⟩ (.int .u64 pay)).setCell ⟨w.heap.size + 1, 3, none⟩ (.int .u64 get) = W4 at *
  have hon := Only.of_grown (S := fun k => k = w.heap.size + 1) hgr (fun k hk => by injection hk with e; exact e.symm)
  have hlt1 := fun k hk => (ho1.lt k hk).1
  have hlt2 := fun k hk => (ho2.lt k hk).1
  have hin1 := fun k hk => (ho1.lt k hk).2
  have hdr : w1.drew.heap.size = w.heap.size + 1 + 1 := HS1.out
  have hO1 : W4.ownsRow w.heap.size 3 1 (.slice a1 n c1) n (rowN da n) := owns_base (hon.owns (owns_below (B := 0) ho1 hb3) (fun k hk => by have := hlt1 k hk; omega)) (by omega)
  have hO2 : W4.ownsRow w2.heap.size 3 1 (.slice a2 n c2) n (rowN db n) := hon.owns ho2 (fun k hk => by have := hlt2 k hk; have := hb2.size; omega)
  have hBel : Below w.heap.size w W4 := hAt3.bel.trans (hon.below hAt3.bel.size (fun k hk => by omega))
  have HF := Lib.hid (show DealV n da db pay get w.heap.size W4 (.agg (dlA a1 c1 a2 c2 n pay get)) from ⟨a1, c1, a2, c2, w2.heap.size, rfl, by have := hb2.size; omega, hO1, hin1, hO2⟩)
  have HR4 := Lib.hid hrow4
  have HB := Lib.hid hBel
  clear hgr hon hlt1 hlt2 hin1 hO1 hO2 hBel hrow4 ho1 ho2 hb2 hb3 hAt hAt2 hAt3 x0 y0 x1 y1 x2 y2 x3 y3 q0 q1 q2 q3 z1 z2
  go_wp2
  exact bodyPost_ret (results_row_one Try.results34 _ _ (w.heap.size + 1) 27 _ _ _ rfl HR4.out Try.underlying27 rfl sz27) rfl ⟨_, rfl, HF.out, HB.out⟩
end Go.Proofs.Ytbggibdldadpiaa
