/-
  Reals: from chapter 3's Ph, what is needed here.
-/
import Derived.Test.YtndhlgbpfkidbaaRPg
namespace Go.Proofs.Ytndhlgbpfkidbaa.n03
open Go.RowKit Go.K Go.R
set_option linter.unusedVariables false
set_option linter.unusedSimpArgs false
/-- A word's whole number at its limb. -/
def shW (x : Nat) : Nat := (pe (rg x) + 149).toNat
def vW (x : Nat) : Nat := pm (rg x) * 2 ^ (shW x % 32)
def loW (x : Nat) : Int := if sgn x then -((vW x % 4294967296 : Nat) : Int) else ((vW x % 4294967296 : Nat) : Int)
def hiW (x : Nat) : Int := if sgn x then -((vW x / 4294967296 : Nat) : Int) else ((vW x / 4294967296 : Nat) : Int)
def addL (L : List Int) (x : Nat) : List Int := (L.set (shW x / 32) (L.getD (shW x / 32) 0 + loW x)).set (shW x / 32 + 1) ((L.set (shW x / 32) (L.getD (shW x / 32) 0 + loW x)).getD (shW x / 32 + 1) 0 + hiW x)
theorem vW_lt (x : Nat) : vW x < 16777216 * 4294967296 := by
  unfold vW
  have h1 := pm_lt (rg x)
  have h2 : (2 : Nat) ^ (shW x % 32) ≤ 2 ^ 32 := Nat.pow_le_pow_right (by decide) (by omega)
  have h3 : (2 : Nat) ^ 32 = 4294967296 := by decide
  rw [h3] at h2
  calc pm (rg x) * 2 ^ (shW x % 32) ≤ pm (rg x) * 4294967296 := Nat.mul_le_mul_left _ h2
    _ < 16777216 * 4294967296 := Nat.mul_lt_mul_of_pos_right h1 (by decide)
theorem or_23 (m : Nat) (h : m < 8388608) : bits .or .u64 (m : Int) 8388608 = ((m + 8388608 : Nat) : Int) := by
  show IntKind.u64.wrap (((BitVec.ofInt 64 (m : Int)) ||| (BitVec.ofInt 64 8388608)).toNat : Int) = _
  have h1 : (BitVec.ofInt 64 (m : Int) ||| BitVec.ofInt 64 8388608).toNat = m + 8388608 := by
    have e : (BitVec.ofInt 64 8388608).toNat = 2 ^ 23 * 1 := by decide
    rw [BitVec.toNat_or, e, BitVec.ofInt_natCast, BitVec.toNat_ofNat, Nat.mod_eq_of_lt (by omega), Nat.or_comm]
    rw [← Nat.two_pow_add_eq_or_of_lt (i := 23) h 1]
    have p : (2 : Nat) ^ 23 * 1 = 8388608 := by decide
    rw [p]; omega
  rw [h1, IntKind.wrap_u64]; omega
theorem shl_wrap (m k : Nat) (h : m * 2 ^ k < 18446744073709551616) : IntKind.u64.wrap ((m : Int) * 2 ^ k) = ((m * 2 ^ k : Nat) : Int) := by
  have e : (m : Int) * 2 ^ k = ((m * 2 ^ k : Nat) : Int) := by simp
  rw [e]
  generalize m * 2 ^ k = P at *
  rw [IntKind.wrap_u64]; omega
attribute [local go_sem] call50
set_option maxRecDepth 100000 in
set_option maxHeartbeats 2000000 in
theorem sadd_pn (g x m0 X e0 P s q q1 r v lo hi t : Nat) (A B : Int) (L : List Int) (w : World) (hL : Lm w g L)
    (a1 : bits .and .u32 (x : Int) 8388607 = (m0 : Int)) (a2 : (x : Int) / 8388608 = (X : Int)) (a3 : bits .and .u32 (X : Int) 255 = (e0 : Int)) (a4 : IntKind.u64.wrap (m0 : Int) = (m0 : Int)) (a5 : IntKind.i64.wrap (e0 : Int) = (e0 : Int))
    (b1 : decide ((e0 : Int) > 0) = true) (b2 : decide (0 < e0) = true) (b3 : bits .or .u64 (m0 : Int) 8388608 = (P : Int)) (b4 : IntKind.i64.wrap ((e0 : Int) - 1) = (s : Int))
    (c1 : Int.tmod (s : Int) 32 = (r : Int)) (c2 : Int.tdiv (s : Int) 32 = (q : Int)) (c3 : IntKind.u64.wrap ((P : Int) * 2 ^ r) = (v : Int)) (c4 : bits .and .u64 (v : Int) 4294967295 = (lo : Int)) (c5 : IntKind.i64.wrap (lo : Int) = (lo : Int)) (c6 : (v : Int) / 4294967296 = (hi : Int)) (c7 : IntKind.i64.wrap (hi : Int) = (hi : Int))
    (d1 : (x : Int) / 2147483648 = (t : Int)) (d2 : ((t : Int) == 1) = true) (d3 : IntKind.i64.wrap (-(lo : Int)) = -(lo : Int)) (d4 : IntKind.i64.wrap (-(hi : Int)) = -(hi : Int))
    (hq : q < 10) (hr : r < 32) (hq1 : q1 = q + 1) (hw1 : IntKind.i64.wrap ((q : Int) + 1) = (q1 : Int)) (hA : IntKind.i64.wrap (L.getD q 0 + -(lo : Int)) = A) (hB : IntKind.i64.wrap (L.getD q1 0 + -(hi : Int)) = B) :
    Calls Try.prog 61 #[.pointer (some ⟨g, 0, none⟩), .float .f32 x] w fun e w' => e = .returned (.tuple #[]) ∧ Lm w' g ((L.set q A).set q1 B) ∧ Only (fun n => n = g) w w' := by
  
  have z1 := hL.cell2 q (by omega)
  have hlen := hL.1
  have HGK := Lib.hid (show (L.set q A).getD q1 0 = L.getD q1 0 by rw [getD_set _ _ _ _ (by omega), if_neg (by omega)])
  have HL := Lib.hid hL
  have hqa : q < L.length := by omega
  have hqb : q1 < (L.set q A).length := by rw [List.length_set]; omega
  have hqb2 : q1 < L.length := by omega
  have ik : (q : Int) < 11 := by omega
  have ik1 : (q1 : Int) < 11 := by omega
  have hwq : IntKind.i64.wrap (q : Int) = (q : Int) := by rw [IntKind.wrap_i64]; omega
  have HQ1 := Lib.hid (show q1 < 11 by omega)
  clear hL hlen hq1
  generalize L.getD q 0 = a at *
  generalize L.getD q1 0 = b at *
  go_enter Try.func61, Try.ntmps61
  go_wp2
  go_still_tail 10, (by kernel_rfl)
  refine wpList_store_lit 2 g q (iL (L.set q A)).toArray (.int .i64 A) HL.out.2 szL (by show q + 1 ≤ (iL L).toArray.size; simp [iL]; omega) rfl (iL_set L q A hqa) ?_ ?_ ?_
  · rfl
  · rfl
  intro V1 hp1
  have HM1 := Lib.hid (show Lm V1 g (L.set q A) from lm_put HL.out.1 hp1)
  have HO1 := Lib.hid (show Only (fun n => n = g) w V1 from (Only.of_below ((Qt.drewN w 1).below w.heap.size)).trans hp1.only (fun b hb => .inl hb))
  have z3 := HM1.out.cell2 q1 HQ1.out
  rw [HGK.out] at z3
  clear hp1 z1 hA
  go_wp2
  go_still_tail 11, (by kernel_rfl)
  refine wpList_store_lit 2 g q1 (iL ((L.set q A).set q1 B)).toArray (.int .i64 B) HM1.out.2 szL (by show q1 + 1 ≤ (iL (L.set q A)).toArray.size; simp [iL]; omega) rfl (iL_set (L.set q A) q1 B hqb) ?_ ?_ ?_
  · rfl
  · rfl
  intro V2 hp2
  have HM2 := Lib.hid (show Lm V2 g ((L.set q A).set q1 B) from lm_put HM1.out.1 hp2)
  have HO2 := Lib.hid (show Only (fun n => n = g) w V2 from (HO1.out.trans (Only.of_below ((Qt.drewN V1 1).below V1.heap.size)) (fun b hb => .inl hb)).trans hp2.only (fun b hb => .inl hb))
  clear hp2
  go_wp2
  exact bodyPost_end (results_none Try.results61 _ _ _) rfl ⟨rfl, HM2.out, HO2.out⟩
set_option maxRecDepth 100000 in
set_option maxHeartbeats 2000000 in
theorem sadd_pu (g x m0 X e0 P s q q1 r v lo hi t : Nat) (A B : Int) (L : List Int) (w : World) (hL : Lm w g L)
    (a1 : bits .and .u32 (x : Int) 8388607 = (m0 : Int)) (a2 : (x : Int) / 8388608 = (X : Int)) (a3 : bits .and .u32 (X : Int) 255 = (e0 : Int)) (a4 : IntKind.u64.wrap (m0 : Int) = (m0 : Int)) (a5 : IntKind.i64.wrap (e0 : Int) = (e0 : Int))
    (b1 : decide ((e0 : Int) > 0) = true) (b2 : decide (0 < e0) = true) (b3 : bits .or .u64 (m0 : Int) 8388608 = (P : Int)) (b4 : IntKind.i64.wrap ((e0 : Int) - 1) = (s : Int))
    (c1 : Int.tmod (s : Int) 32 = (r : Int)) (c2 : Int.tdiv (s : Int) 32 = (q : Int)) (c3 : IntKind.u64.wrap ((P : Int) * 2 ^ r) = (v : Int)) (c4 : bits .and .u64 (v : Int) 4294967295 = (lo : Int)) (c5 : IntKind.i64.wrap (lo : Int) = (lo : Int)) (c6 : (v : Int) / 4294967296 = (hi : Int)) (c7 : IntKind.i64.wrap (hi : Int) = (hi : Int))
    (d1 : (x : Int) / 2147483648 = (t : Int)) (d2 : ((t : Int) == 1) = false) (d3 : IntKind.i64.wrap (-(lo : Int)) = -(lo : Int)) (d4 : IntKind.i64.wrap (-(hi : Int)) = -(hi : Int))
    (hq : q < 10) (hr : r < 32) (hq1 : q1 = q + 1) (hw1 : IntKind.i64.wrap ((q : Int) + 1) = (q1 : Int)) (hA : IntKind.i64.wrap (L.getD q 0 + (lo : Int)) = A) (hB : IntKind.i64.wrap (L.getD q1 0 + (hi : Int)) = B) :
    Calls Try.prog 61 #[.pointer (some ⟨g, 0, none⟩), .float .f32 x] w fun e w' => e = .returned (.tuple #[]) ∧ Lm w' g ((L.set q A).set q1 B) ∧ Only (fun n => n = g) w w' := by
  
  have z1 := hL.cell2 q (by omega)
  have hlen := hL.1
  have HGK := Lib.hid (show (L.set q A).getD q1 0 = L.getD q1 0 by rw [getD_set _ _ _ _ (by omega), if_neg (by omega)])
  have HL := Lib.hid hL
  have hqa : q < L.length := by omega
  have hqb : q1 < (L.set q A).length := by rw [List.length_set]; omega
  have hqb2 : q1 < L.length := by omega
  have ik : (q : Int) < 11 := by omega
  have ik1 : (q1 : Int) < 11 := by omega
  have hwq : IntKind.i64.wrap (q : Int) = (q : Int) := by rw [IntKind.wrap_i64]; omega
  have HQ1 := Lib.hid (show q1 < 11 by omega)
  clear hL hlen hq1
  generalize L.getD q 0 = a at *
  generalize L.getD q1 0 = b at *
  go_enter Try.func61, Try.ntmps61
  go_wp2
  go_still_tail 10, (by kernel_rfl)
  refine wpList_store_lit 2 g q (iL (L.set q A)).toArray (.int .i64 A) HL.out.2 szL (by show q + 1 ≤ (iL L).toArray.size; simp [iL]; omega) rfl (iL_set L q A hqa) ?_ ?_ ?_
  · rfl
  · rfl
  intro V1 hp1
  have HM1 := Lib.hid (show Lm V1 g (L.set q A) from lm_put HL.out.1 hp1)
  have HO1 := Lib.hid (show Only (fun n => n = g) w V1 from (Only.of_below ((Qt.drewN w 1).below w.heap.size)).trans hp1.only (fun b hb => .inl hb))
  have z3 := HM1.out.cell2 q1 HQ1.out
  rw [HGK.out] at z3
  clear hp1 z1 hA
  go_wp2
  go_still_tail 11, (by kernel_rfl)
  refine wpList_store_lit 2 g q1 (iL ((L.set q A).set q1 B)).toArray (.int .i64 B) HM1.out.2 szL (by show q1 + 1 ≤ (iL (L.set q A)).toArray.size; simp [iL]; omega) rfl (iL_set (L.set q A) q1 B hqb) ?_ ?_ ?_
  · rfl
  · rfl
  intro V2 hp2
  have HM2 := Lib.hid (show Lm V2 g ((L.set q A).set q1 B) from lm_put HM1.out.1 hp2)
  have HO2 := Lib.hid (show Only (fun n => n = g) w V2 from (HO1.out.trans (Only.of_below ((Qt.drewN V1 1).below V1.heap.size)) (fun b hb => .inl hb)).trans hp2.only (fun b hb => .inl hb))
  clear hp2
  go_wp2
  exact bodyPost_end (results_none Try.results61 _ _ _) rfl ⟨rfl, HM2.out, HO2.out⟩
set_option maxRecDepth 100000 in
set_option maxHeartbeats 2000000 in
theorem sadd_sn (g x m0 X e0 P s q q1 r v lo hi t : Nat) (A B : Int) (L : List Int) (w : World) (hL : Lm w g L)
    (a1 : bits .and .u32 (x : Int) 8388607 = (m0 : Int)) (a2 : (x : Int) / 8388608 = (X : Int)) (a3 : bits .and .u32 (X : Int) 255 = (e0 : Int)) (a4 : IntKind.u64.wrap (m0 : Int) = (m0 : Int)) (a5 : IntKind.i64.wrap (e0 : Int) = (e0 : Int))
    (b1 : decide ((e0 : Int) > 0) = false) (b2 : decide (0 < e0) = false) (b3 : m0 = P) (b4 : e0 = s)
    (c1 : Int.tmod (s : Int) 32 = (r : Int)) (c2 : Int.tdiv (s : Int) 32 = (q : Int)) (c3 : IntKind.u64.wrap ((P : Int) * 2 ^ r) = (v : Int)) (c4 : bits .and .u64 (v : Int) 4294967295 = (lo : Int)) (c5 : IntKind.i64.wrap (lo : Int) = (lo : Int)) (c6 : (v : Int) / 4294967296 = (hi : Int)) (c7 : IntKind.i64.wrap (hi : Int) = (hi : Int))
    (d1 : (x : Int) / 2147483648 = (t : Int)) (d2 : ((t : Int) == 1) = true) (d3 : IntKind.i64.wrap (-(lo : Int)) = -(lo : Int)) (d4 : IntKind.i64.wrap (-(hi : Int)) = -(hi : Int))
    (hq : q < 10) (hr : r < 32) (hq1 : q1 = q + 1) (hw1 : IntKind.i64.wrap ((q : Int) + 1) = (q1 : Int)) (hA : IntKind.i64.wrap (L.getD q 0 + -(lo : Int)) = A) (hB : IntKind.i64.wrap (L.getD q1 0 + -(hi : Int)) = B) :
    Calls Try.prog 61 #[.pointer (some ⟨g, 0, none⟩), .float .f32 x] w fun e w' => e = .returned (.tuple #[]) ∧ Lm w' g ((L.set q A).set q1 B) ∧ Only (fun n => n = g) w w' := by
  subst b3 b4
  have z1 := hL.cell2 q (by omega)
  have hlen := hL.1
  have HGK := Lib.hid (show (L.set q A).getD q1 0 = L.getD q1 0 by rw [getD_set _ _ _ _ (by omega), if_neg (by omega)])
  have HL := Lib.hid hL
  have hqa : q < L.length := by omega
  have hqb : q1 < (L.set q A).length := by rw [List.length_set]; omega
  have hqb2 : q1 < L.length := by omega
  have ik : (q : Int) < 11 := by omega
  have ik1 : (q1 : Int) < 11 := by omega
  have hwq : IntKind.i64.wrap (q : Int) = (q : Int) := by rw [IntKind.wrap_i64]; omega
  have HQ1 := Lib.hid (show q1 < 11 by omega)
  clear hL hlen hq1
  generalize L.getD q 0 = a at *
  generalize L.getD q1 0 = b at *
  go_enter Try.func61, Try.ntmps61
  go_wp2
  go_still_tail 10, (by kernel_rfl)
  refine wpList_store_lit 2 g q (iL (L.set q A)).toArray (.int .i64 A) HL.out.2 szL (by show q + 1 ≤ (iL L).toArray.size; simp [iL]; omega) rfl (iL_set L q A hqa) ?_ ?_ ?_
  · rfl
  · rfl
  intro V1 hp1
  have HM1 := Lib.hid (show Lm V1 g (L.set q A) from lm_put HL.out.1 hp1)
  have HO1 := Lib.hid (show Only (fun n => n = g) w V1 from (Only.of_below ((Qt.drewN w 1).below w.heap.size)).trans hp1.only (fun b hb => .inl hb))
  have z3 := HM1.out.cell2 q1 HQ1.out
  rw [HGK.out] at z3
  clear hp1 z1 hA
  go_wp2
  go_still_tail 11, (by kernel_rfl)
  refine wpList_store_lit 2 g q1 (iL ((L.set q A).set q1 B)).toArray (.int .i64 B) HM1.out.2 szL (by show q1 + 1 ≤ (iL (L.set q A)).toArray.size; simp [iL]; omega) rfl (iL_set (L.set q A) q1 B hqb) ?_ ?_ ?_
  · rfl
  · rfl
  intro V2 hp2
  have HM2 := Lib.hid (show Lm V2 g ((L.set q A).set q1 B) from lm_put HM1.out.1 hp2)
  have HO2 := Lib.hid (show Only (fun n => n = g) w V2 from (HO1.out.trans (Only.of_below ((Qt.drewN V1 1).below V1.heap.size)) (fun b hb => .inl hb)).trans hp2.only (fun b hb => .inl hb))
  clear hp2
  go_wp2
  exact bodyPost_end (results_none Try.results61 _ _ _) rfl ⟨rfl, HM2.out, HO2.out⟩
set_option maxRecDepth 100000 in
set_option maxHeartbeats 2000000 in
theorem sadd_su (g x m0 X e0 P s q q1 r v lo hi t : Nat) (A B : Int) (L : List Int) (w : World) (hL : Lm w g L)
    (a1 : bits .and .u32 (x : Int) 8388607 = (m0 : Int)) (a2 : (x : Int) / 8388608 = (X : Int)) (a3 : bits .and .u32 (X : Int) 255 = (e0 : Int)) (a4 : IntKind.u64.wrap (m0 : Int) = (m0 : Int)) (a5 : IntKind.i64.wrap (e0 : Int) = (e0 : Int))
    (b1 : decide ((e0 : Int) > 0) = false) (b2 : decide (0 < e0) = false) (b3 : m0 = P) (b4 : e0 = s)
    (c1 : Int.tmod (s : Int) 32 = (r : Int)) (c2 : Int.tdiv (s : Int) 32 = (q : Int)) (c3 : IntKind.u64.wrap ((P : Int) * 2 ^ r) = (v : Int)) (c4 : bits .and .u64 (v : Int) 4294967295 = (lo : Int)) (c5 : IntKind.i64.wrap (lo : Int) = (lo : Int)) (c6 : (v : Int) / 4294967296 = (hi : Int)) (c7 : IntKind.i64.wrap (hi : Int) = (hi : Int))
    (d1 : (x : Int) / 2147483648 = (t : Int)) (d2 : ((t : Int) == 1) = false) (d3 : IntKind.i64.wrap (-(lo : Int)) = -(lo : Int)) (d4 : IntKind.i64.wrap (-(hi : Int)) = -(hi : Int))
    (hq : q < 10) (hr : r < 32) (hq1 : q1 = q + 1) (hw1 : IntKind.i64.wrap ((q : Int) + 1) = (q1 : Int)) (hA : IntKind.i64.wrap (L.getD q 0 + (lo : Int)) = A) (hB : IntKind.i64.wrap (L.getD q1 0 + (hi : Int)) = B) :
    Calls Try.prog 61 #[.pointer (some ⟨g, 0, none⟩), .float .f32 x] w fun e w' => e = .returned (.tuple #[]) ∧ Lm w' g ((L.set q A).set q1 B) ∧ Only (fun n => n = g) w w' := by
  subst b3 b4
  have z1 := hL.cell2 q (by omega)
  have hlen := hL.1
  have HGK := Lib.hid (show (L.set q A).getD q1 0 = L.getD q1 0 by rw [getD_set _ _ _ _ (by omega), if_neg (by omega)])
  have HL := Lib.hid hL
  have hqa : q < L.length := by omega
  have hqb : q1 < (L.set q A).length := by rw [List.length_set]; omega
  have hqb2 : q1 < L.length := by omega
  have ik : (q : Int) < 11 := by omega
  have ik1 : (q1 : Int) < 11 := by omega
  have hwq : IntKind.i64.wrap (q : Int) = (q : Int) := by rw [IntKind.wrap_i64]; omega
  have HQ1 := Lib.hid (show q1 < 11 by omega)
  clear hL hlen hq1
  generalize L.getD q 0 = a at *
  generalize L.getD q1 0 = b at *
  go_enter Try.func61, Try.ntmps61
  go_wp2
  go_still_tail 10, (by kernel_rfl)
  refine wpList_store_lit 2 g q (iL (L.set q A)).toArray (.int .i64 A) HL.out.2 szL (by show q + 1 ≤ (iL L).toArray.size; simp [iL]; omega) rfl (iL_set L q A hqa) ?_ ?_ ?_
  · rfl
  · rfl
  intro V1 hp1
  have HM1 := Lib.hid (show Lm V1 g (L.set q A) from lm_put HL.out.1 hp1)
  have HO1 := Lib.hid (show Only (fun n => n = g) w V1 from (Only.of_below ((Qt.drewN w 1).below w.heap.size)).trans hp1.only (fun b hb => .inl hb))
  have z3 := HM1.out.cell2 q1 HQ1.out
  rw [HGK.out] at z3
  clear hp1 z1 hA
  go_wp2
  go_still_tail 11, (by kernel_rfl)
  refine wpList_store_lit 2 g q1 (iL ((L.set q A).set q1 B)).toArray (.int .i64 B) HM1.out.2 szL (by show q1 + 1 ≤ (iL (L.set q A)).toArray.size; simp [iL]; omega) rfl (iL_set (L.set q A) q1 B hqb) ?_ ?_ ?_
  · rfl
  · rfl
  intro V2 hp2
  have HM2 := Lib.hid (show Lm V2 g ((L.set q A).set q1 B) from lm_put HM1.out.1 hp2)
  have HO2 := Lib.hid (show Only (fun n => n = g) w V2 from (HO1.out.trans (Only.of_below ((Qt.drewN V1 1).below V1.heap.size)) (fun b hb => .inl hb)).trans hp2.only (fun b hb => .inl hb))
  clear hp2
  go_wp2
  exact bodyPost_end (results_none Try.results61 _ _ _) rfl ⟨rfl, HM2.out, HO2.out⟩
end Go.Proofs.Ytndhlgbpfkidbaa.n03

