/-
  Layer 3, the reference: parts, finite, scaled, held.
-/
import Derived.Test.YtoaecmoihbifoaaNc
import Derived.Deep.RegionHeld3
import Derived.RegionTactic
namespace Go.Proofs.Ytoaecmoihbifoaa
open Go.RowKit Go.K Go.R
set_option linter.unusedVariables false
set_option linter.unusedSimpArgs false
theorem and_23 (x : Nat) : bits .and .u32 (x : Int) 8388607 = ((x % 8388608 : Nat) : Int) := by
  show IntKind.u32.wrap (((BitVec.ofInt 32 (x : Int)) &&& (BitVec.ofInt 32 8388607)).toNat : Int) = _
  have h1 : (BitVec.ofInt 32 (x : Int) &&& BitVec.ofInt 32 8388607).toNat = x % 8388608 := by
    rw [BitVec.toNat_and, BitVec.ofInt_natCast, BitVec.toNat_ofNat]
    have : (BitVec.ofInt 32 8388607).toNat = 2 ^ 23 - 1 := by decide
    rw [this, Nat.and_two_pow_sub_one_eq_mod]
    omega
  rw [h1, IntKind.wrap_u32]; omega
theorem and_8 (x : Nat) : bits .and .u32 (x : Int) 255 = ((x % 256 : Nat) : Int) := by
  show IntKind.u32.wrap (((BitVec.ofInt 32 (x : Int)) &&& (BitVec.ofInt 32 255)).toNat : Int) = _
  have h1 : (BitVec.ofInt 32 (x : Int) &&& BitVec.ofInt 32 255).toNat = x % 256 := by
    rw [BitVec.toNat_and, BitVec.ofInt_natCast, BitVec.toNat_ofNat]
    have : (BitVec.ofInt 32 255).toNat = 2 ^ 8 - 1 := by decide
    rw [this, Nat.and_two_pow_sub_one_eq_mod]
    omega
  rw [h1, IntKind.wrap_u32]; omega
theorem dlen {n s k : Nat} (h : n < 2 ^ s) (hk : s ≤ 16 * k) : (digs n).length ≤ k := by
  apply digs_len
  have h1 : (65536 : Nat) = 2 ^ 16 := by decide
  rw [h1, ← Nat.pow_mul]
  exact Nat.lt_of_lt_of_le h (Nat.pow_le_pow_right (by decide) hk)
theorem sc_lt {B : Int} {m s : Nat} {e : Int} {k : Nat} (h : m < 2 ^ s) (hk : s + (e - B).toNat ≤ k) : sc B m e < 2 ^ k := by
  have h1 : sc B m e < 2 ^ s * 2 ^ (e - B).toNat := Nat.mul_lt_mul_of_pos_right h (Nat.two_pow_pos _)
  rw [← Nat.pow_add] at h1
  exact Nat.lt_of_lt_of_le h1 (Nat.pow_le_pow_right (by decide) hk)
/-- A rung of a word. -/
def rg (x : Nat) : Nat := x % 2147483648
set_option maxRecDepth 100000 in
theorem parts_any (x : Nat) (hx : x < 4294967296) (w : World) :
    Calls Try.prog 54 #[.int .u32 (x : Int)] w fun r w' => r = .returned (.tuple #[.int .i64 (pm (rg x)), .int .i64 (pe (rg x))]) ∧ w = w' := by
  have h1 := and_23 x
  have h2 : ((x : Int) / 8388608) = ((x / 8388608 : Nat) : Int) := by omega
  have h3 := and_8 (x / 8388608)
  have hw1 := wrap_nat (x % 8388608) (by omega)
  have hw2 := wrap_nat (x / 8388608 % 256) (by omega)
  by_cases hp : 0 < x / 8388608 % 256
  · have t0 : decide (((x / 8388608 % 256 : Nat) : Int) > 0) = true := decide_eq_true (by omega)
    have t1 : decide (0 < x / 8388608 % 256) = true := decide_eq_true hp
    have hw3 : wrap64 (((x % 8388608 : Nat) : Int) + 8388608) = ((pm (rg x) : Nat) : Int) := by
      unfold pm rg wrap64; rw [if_neg (by omega)]; omega
    have hw4 : wrap64 (((x / 8388608 % 256 : Nat) : Int) - 150) = pe (rg x) := by
      unfold pe rg wrap64; rw [if_neg (by omega)]; omega
    clear hp
    generalize pm (rg x) = P at *
    generalize pe (rg x) = Q at *
    generalize x / 8388608 % 256 = e at *
    generalize x % 8388608 = m at *
    generalize x / 8388608 = s at *
    go_enter Try.func54, Try.ntmps54
    go_wp2
    go_ret2
    exact ⟨by rw [← hw3, ← hw4]; rfl, rfl⟩
  · have t0 : decide (((x / 8388608 % 256 : Nat) : Int) > 0) = false := decide_eq_false (by omega)
    have t1 : decide (0 < x / 8388608 % 256) = false := decide_eq_false hp
    have hw3 : ((x % 8388608 : Nat) : Int) = ((pm (rg x) : Nat) : Int) := by
      unfold pm rg; rw [if_pos (by omega)]; omega
    have HW4 := Lib.hid (show pe (rg x) = -149 by unfold pe rg; rw [if_pos (by omega)])
    have HW3 := Lib.hid hw3
    clear hp hw3
    generalize pm (rg x) = P at *
    generalize pe (rg x) = Q at *
    generalize x / 8388608 % 256 = e at *
    generalize x % 8388608 = m at *
    generalize x / 8388608 = s at *
    go_enter Try.func54, Try.ntmps54
    go_wp2
    go_ret2
    exact ⟨by rw [← HW3.out, HW4.out]; rfl, rfl⟩
/-- No infinity, nothing that is no number. -/
def finW (x : Nat) : Bool := decide (rg x < 2139095040)
theorem finW_kind (x : Nat) : decide (kindW x ≥ 3) = finW x := by
  unfold kindW finW nanW rg
  by_cases h1 : 2139095040 < x % 2147483648
  · simp [h1]; omega
  · by_cases h2 : x % 2147483648 = 2139095040
    · simp [h2]
    · have h3 : x % 2147483648 < 2139095040 := by omega
      by_cases h4 : x % 2147483648 = 0
      · simp [h4]
      · by_cases h5 : x % 2147483648 < 8388608
        · simp [h1, h2, h3, h4, h5]
        · simp [h1, h2, h3, h4, h5]
theorem finite_any (x : Nat) (w : World) : Calls Try.prog 53 #[.int .u32 (x : Int)] w fun r w' => r = .returned (.bool (finW x)) ∧ w = w' := by
  have H := Lib.hid (finW_kind x)
  go_enter Try.func53, Try.ntmps53
  go_wp2_with (go_at_call 14; refine (rkind_any x _).mono ?_; rintro e w1 ⟨rfl, rfl⟩)
  go_ret
  exact ⟨by rw [← H.out]; rfl, rfl⟩
/-- number and shift together. -/
def Sc (W : World) (v : Value) (m : Nat) (e : Int) : Prop := Bg W v (sc (-600) m e)
theorem dlen_sc {m s k : Nat} {e : Int} (h : m < 2 ^ s) (hk : s + (e + 600).toNat ≤ 16 * k) : (digs (sc (-600) m e)).length ≤ k := by
  refine dlen (s := s + (e + 600).toNat) (sc_lt h ?_) hk
  have : (e - -600).toNat = (e + 600).toNat := by omega
  rw [this]; exact Nat.le_refl _
theorem shift_sc (v : Value) (m : Nat) (e t : Int) (w : World) (hv : Bg w v m) (ht : t = e + 600) (h1 : -600 ≤ e) (h2 : e ≤ 3000) (hn : (digs m).length ≤ 500) :
    Calls Try.prog 56 #[v, .int .i64 t] w fun r w' => ∃ v', r = .returned v' ∧ Bg w' v' (sc (-600) m e) ∧ Below w.heap.size w w' := by
  obtain ⟨s, hs⟩ : ∃ s : Nat, t = (s : Int) := ⟨t.toNat, by omega⟩
  subst hs
  have h := shift_any v m s w hv (by omega) hn
  have e1 : m * 2 ^ s = sc (-600) m e := by unfold sc; congr 2; omega
  rw [e1] at h
  exact h
set_option maxRecDepth 100000 in
theorem scaled_any (x : Nat) (hx : x < 4294967296) (hf : rg x < 2139095040) (w : World) :
    Calls Try.prog 68 #[.int .u32 (x : Int)] w fun r w' => ∃ v', r = .returned v' ∧ Bg w' v' (sc (-600) (pm (rg x)) (pe (rg x))) ∧ Below w.heap.size w w' := by
  have HP := Lib.hid (parts_any x hx)
  have hm := pm_lt (rg x)
  have he := pe_ge (rg x)
  have he2 := pe_le (rg x) hf
  clear hf
  generalize pm (rg x) = m at *
  generalize pe (rg x) = e at *
  have hw1 : IntKind.i64.wrap (e + 600) = e + 600 := by rw [IntKind.wrap_i64]; omega
  have HN := Lib.hid (fun W => number_any m W (by omega))
  have HS := Lib.hid (fun W v (h : Bg W v m) => shift_sc v m e (e + 600) W h rfl (by omega) (by omega) (Nat.le_trans (dlen (s := 24) (k := 2) (Nat.lt_of_lt_of_le hm (by decide)) (by decide)) (by decide)))
  go_enter Try.func68, Try.ntmps68
  go_wp2_with fail
  refine (HP.out w).mono ?_
  rintro r1 w1 ⟨rfl, rfl⟩
  go_wp2_with fail
  refine (HN.out w).mono ?_
  rintro r2 w2 ⟨v2, rfl, hb, hbel⟩
  have HB := Lib.hid hb
  have HBEL := Lib.hid hbel
  clear hb hbel
  go_wp2_with fail
  refine (HS.out w2 v2 HB.out).mono ?_
  rintro r3 w3 ⟨v3, rfl, hb, hbel⟩
  have HB3 := Lib.hid hb
  have HBEL3 := Lib.hid (HBEL.out.trans (hbel.mono HBEL.out.size))
  clear hb hbel
  go_wp2
  go_ret
  exact ⟨_, rfl, HB3.out, HBEL3.out⟩
/-- An exact number in its box. -/
structure BoxX (w : World) (q : Int) (tv : Value) (M E N F : Int) (V : World) : Prop where
  row : V.heap[w.heap.size]? = some (.cells #[.int .i64 q, tv, .int .i64 M, .int .i64 E, .int .i64 N, .int .i64 F] 72)
  bel : Below w.heap.size w V
theorem BoxX.start (w : World) (q : Int) (tv : Value) (M E N F : Int) : BoxX w q tv M E N F (w.alloc (.cells #[.int .i64 q, tv, .int .i64 M, .int .i64 E, .int .i64 N, .int .i64 F] 72)) := ⟨alloc_at rfl, (Below.refl _ _).alloc (Nat.le_refl _) _⟩
theorem BoxX.kept {w : World} {q : Int} {tv : Value} {M E N F : Int} {V V' : World} (h : BoxX w q tv M E N F V) (hb : Below V.heap.size V V') : BoxX w q tv M E N F V' := ⟨row_kept h.row hb, h.bel.trans (hb.mono h.bel.size)⟩
theorem BoxX.cells {w : World} {q : Int} {tv : Value} {M E N F : Int} {V : World} (h : BoxX w q tv M E N F V) : V.cell? ⟨w.heap.size, 0, none⟩ = some (.int .i64 q) ∧ V.cell? ⟨w.heap.size, 1, none⟩ = some tv ∧ V.cell? ⟨w.heap.size, 2, none⟩ = some (.int .i64 M) ∧ V.cell? ⟨w.heap.size, 3, none⟩ = some (.int .i64 E) ∧
    V.cell? ⟨w.heap.size, 4, none⟩ = some (.int .i64 N) ∧ V.cell? ⟨w.heap.size, 5, none⟩ = some (.int .i64 F) :=
  ⟨by rw [cell_of_row _ _ _ _ _ _ h.row]; rfl, by rw [cell_of_row _ _ _ _ _ _ h.row]; rfl, by rw [cell_of_row _ _ _ _ _ _ h.row]; rfl, by rw [cell_of_row _ _ _ _ _ _ h.row]; rfl, by rw [cell_of_row _ _ _ _ _ _ h.row]; rfl, by rw [cell_of_row _ _ _ _ _ _ h.row]; rfl⟩
set_option maxRecDepth 100000 in
set_option maxHeartbeats 2000000 in
theorem held1_any (T : Nat) (tv : Value) (M E N F : Int) (m : Nat) (e : Int) (w : World) (hT : Bg w tv T) (hTl : (digs T).length ≤ 1000) (hm : m < 67108864) (he : -200 ≤ e) (he2 : e ≤ 200) :
    Calls Try.prog 75 #[.agg #[.int .i64 1, tv, .int .i64 M, .int .i64 E, .int .i64 N, .int .i64 F], .int .i64 m, .int .i64 e] w fun r w' => r = .returned (.int .i64 (icmp T (sc (-600) m e))) ∧ Below w.heap.size w w' := by
  have HT := Lib.hid (fun W (h : Below w.heap.size w W) => hT.kept h)
  have hw1 : IntKind.i64.wrap (e + 600) = e + 600 := by rw [IntKind.wrap_i64]; omega
  have hd1 : (digs m).length ≤ 500 := Nat.le_trans (dlen (s := 26) (k := 2) (Nat.lt_of_lt_of_le hm (by decide)) (by decide)) (by decide)
  have hd2 : (digs (sc (-600) m e)).length ≤ 1000 := dlen_sc (s := 26) (Nat.lt_of_lt_of_le hm (by decide)) (by omega)
  have HN := Lib.hid (fun W => number_any m W (by omega))
  have HS := Lib.hid (fun W v (h : Bg W v m) => shift_sc v m e (e + 600) W h rfl (by omega) (by omega) hd1)
  have HC := Lib.hid (fun W v (h1 : Bg W tv T) (h2 : Bg W v (sc (-600) m e)) => compare_any tv v T (sc (-600) m e) W h1 h2 hTl hd2)
  obtain ⟨ad, cap, rfl, -⟩ := hT
  have HB := Lib.hid (BoxX.start w 1 (.slice ad (digs T).length cap) M E N F)
  generalize (digs T).length = n at *
  go_enter Try.func75, Try.ntmps75
  obtain ⟨z0, z1, z2, z3, z4, z5⟩ := HB.out.cells
  go_wp2
  have hA0 := HB.out.kept ((Qt.drewN _ 1).below _)
  go_region_held3 (fun V => V.cell? ⟨w.heap.size, 1, none⟩ = some (.slice ad n cap)) (go_keep)
    ((first
      | (go_at_call 57; (with_reducible refine (HN.out _).mono ?_); rintro r1 y1 ⟨v1, rfl, hb1, hl1⟩; have hA1 := hA0.kept hl1; have z1 := hA1.cells.2.1)
      | (go_at_call 56; (with_reducible refine (HS.out _ _ hb1).mono ?_); rintro r2 y2 ⟨v2, rfl, hb2, hl2⟩; have hA2 := hA1.kept hl2; have z1 := hA2.cells.2.1)
      | (go_at_call 69; (with_reducible refine (HC.out _ _ (HT.out _ hA2.bel) hb2).mono ?_); rintro r3 y3 ⟨rfl, hl3⟩; have hA3 := hA2.kept hl3; have z1 := hA3.cells.2.1)))
  go_wp2
  go_ret
  exact ⟨rfl, hA3.bel⟩
set_option maxRecDepth 100000 in
set_option maxHeartbeats 2000000 in
theorem held2_any (M : Nat) (E : Int) (N : Nat) (F : Int) (m : Nat) (e : Int) (w : World) (hM : M < 16777216) (hE : -200 ≤ E) (hE2 : E ≤ 200) (hN : N < 16777216) (hF : -200 ≤ F) (hF2 : F ≤ 200) (hm : m < 67108864) (he : -151 ≤ e) (he2 : e ≤ 200) :
    Calls Try.prog 75 #[.agg #[.int .i64 2, .slice none 0 0, .int .i64 M, .int .i64 E, .int .i64 N, .int .i64 F], .int .i64 m, .int .i64 e] w fun r w' => r = .returned (.int .i64 (icmp (sc (-600) M E) (sc (-600) (m * N) (e + F)))) ∧ Below w.heap.size w w' := by
  have hw1 : IntKind.i64.wrap (E + 600) = E + 600 := by rw [IntKind.wrap_i64]; omega
  have hmn : m * N < 67108864 * 16777216 := Nat.mul_lt_mul'' hm hN
  have hw2 := wrap_mul m N (by omega)
  have hw3 : IntKind.i64.wrap (e + F) = e + F := by rw [IntKind.wrap_i64]; omega
  have hw4 : IntKind.i64.wrap (e + F + 600) = e + F + 600 := by rw [IntKind.wrap_i64]; omega
  have hd1 : (digs M).length ≤ 500 := Nat.le_trans (dlen (s := 24) (k := 2) (Nat.lt_of_lt_of_le hM (by decide)) (by decide)) (by decide)
  have hd2 : (digs (sc (-600) M E)).length ≤ 1000 := dlen_sc (s := 24) (Nat.lt_of_lt_of_le hM (by decide)) (by omega)
  have hd3 : (digs (m * N)).length ≤ 500 := Nat.le_trans (dlen (s := 52) (k := 4) (Nat.lt_of_lt_of_le hmn (by decide)) (by decide)) (by decide)
  have hd4 : (digs (sc (-600) (m * N) (e + F))).length ≤ 1000 := dlen_sc (s := 52) (Nat.lt_of_lt_of_le hmn (by decide)) (by omega)
  have HN := Lib.hid (fun W => number_any M W (by omega))
  have HN2 := Lib.hid (fun W => number_any (m * N) W (by omega))
  have HS := Lib.hid (fun W v (h : Bg W v M) => shift_sc v M E (E + 600) W h rfl (by omega) (by omega) hd1)
  have HS2 := Lib.hid (fun W v (h : Bg W v (m * N)) => shift_sc v (m * N) (e + F) (e + F + 600) W h rfl (by omega) (by omega) hd3)
  have HC := Lib.hid (fun W v1 v (h1 : Bg W v1 (sc (-600) M E)) (h2 : Bg W v (sc (-600) (m * N) (e + F))) => compare_any v1 v (sc (-600) M E) (sc (-600) (m * N) (e + F)) W h1 h2 hd2 hd4)
  clear hd1 hd2 hd3 hd4 hmn
  generalize m * N = p at *
  have HB := Lib.hid (BoxX.start w 2 (.slice none 0 0) M E N F)
  go_enter Try.func75, Try.ntmps75
  obtain ⟨z0, z1, z2, z3, z4, z5⟩ := HB.out.cells
  go_wp2
  have hA0 := HB.out.kept ((Qt.drewN _ 1).below _)
  go_region_held3 (fun V => V.cell? ⟨w.heap.size, 2, none⟩ = some (.int .i64 M) ∧ V.cell? ⟨w.heap.size, 3, none⟩ = some (.int .i64 E) ∧ V.cell? ⟨w.heap.size, 4, none⟩ = some (.int .i64 N) ∧ V.cell? ⟨w.heap.size, 5, none⟩ = some (.int .i64 F)) (go_keep)
    ((first
      | (go_at_call 57; (with_reducible refine (HN.out _).mono ?_); rintro r1 y1 ⟨v1, rfl, hb1, hl1⟩; have hA1 := hA0.kept hl1; have z2 := hA1.cells.2.2.1; have z3 := hA1.cells.2.2.2.1; have z4 := hA1.cells.2.2.2.2.1; have z5 := hA1.cells.2.2.2.2.2)
      | (go_at_call 56; (with_reducible refine (HS.out _ _ hb1).mono ?_); rintro r2 y2 ⟨v2, rfl, hb2, hl2⟩; have hA2 := hA1.kept hl2; have z2 := hA2.cells.2.2.1; have z3 := hA2.cells.2.2.2.1; have z4 := hA2.cells.2.2.2.2.1; have z5 := hA2.cells.2.2.2.2.2)
      | (go_at_call 57; (with_reducible refine (HN2.out _).mono ?_); rintro r3 y3 ⟨v3, rfl, hb3, hl3⟩; have hA3 := hA2.kept hl3; have hb2 := hb2.kept hl3; have z2 := hA3.cells.2.2.1; have z3 := hA3.cells.2.2.2.1; have z4 := hA3.cells.2.2.2.2.1; have z5 := hA3.cells.2.2.2.2.2)
      | (go_at_call 56; (with_reducible refine (HS2.out _ _ hb3).mono ?_); rintro r4 y4 ⟨v4, rfl, hb4, hl4⟩; have hA4 := hA3.kept hl4; have hb2 := hb2.kept hl4; have z2 := hA4.cells.2.2.1; have z3 := hA4.cells.2.2.2.1; have z4 := hA4.cells.2.2.2.2.1; have z5 := hA4.cells.2.2.2.2.2)
      | (go_at_call 69; (with_reducible refine (HC.out _ _ _ hb2 hb4).mono ?_); rintro r5 y5 ⟨rfl, hl5⟩; have hA5 := hA4.kept hl5; have z2 := hA5.cells.2.2.1; have z3 := hA5.cells.2.2.2.1; have z4 := hA5.cells.2.2.2.2.1; have z5 := hA5.cells.2.2.2.2.2)))
  go_wp2
  go_ret
  exact ⟨rfl, hA5.bel⟩
set_option maxRecDepth 100000 in
set_option maxHeartbeats 2000000 in
theorem held3_any (M : Nat) (E : Int) (N F : Int) (m : Nat) (e : Int) (w : World) (hM : M < 16777216) (hE : -200 ≤ E) (hE2 : E ≤ 200)  (hm : m < 67108864) (he : -151 ≤ e) (he2 : e ≤ 200) :
    Calls Try.prog 75 #[.agg #[.int .i64 3, .slice none 0 0, .int .i64 M, .int .i64 E, .int .i64 N, .int .i64 F], .int .i64 m, .int .i64 e] w fun r w' => r = .returned (.int .i64 (icmp (sc (-600) M E) (sc (-600) (m * m) (2 * e)))) ∧ Below w.heap.size w w' := by
  have hw1 : IntKind.i64.wrap (E + 600) = E + 600 := by rw [IntKind.wrap_i64]; omega
  have hmn : m * m < 67108864 * 67108864 := Nat.mul_lt_mul'' hm hm
  have hw2 := wrap_mul m m (by omega)
  have hw3 : IntKind.i64.wrap (2 * e) = 2 * e := by rw [IntKind.wrap_i64]; omega
  have hw4 : IntKind.i64.wrap (2 * e + 600) = 2 * e + 600 := by rw [IntKind.wrap_i64]; omega
  have hd1 : (digs M).length ≤ 500 := Nat.le_trans (dlen (s := 24) (k := 2) (Nat.lt_of_lt_of_le hM (by decide)) (by decide)) (by decide)
  have hd2 : (digs (sc (-600) M E)).length ≤ 1000 := dlen_sc (s := 24) (Nat.lt_of_lt_of_le hM (by decide)) (by omega)
  have hd3 : (digs (m * m)).length ≤ 500 := Nat.le_trans (dlen (s := 52) (k := 4) (Nat.lt_of_lt_of_le hmn (by decide)) (by decide)) (by decide)
  have hd4 : (digs (sc (-600) (m * m) (2 * e))).length ≤ 1000 := dlen_sc (s := 52) (Nat.lt_of_lt_of_le hmn (by decide)) (by omega)
  have HN := Lib.hid (fun W => number_any M W (by omega))
  have HN2 := Lib.hid (fun W => number_any (m * m) W (by omega))
  have HS := Lib.hid (fun W v (h : Bg W v M) => shift_sc v M E (E + 600) W h rfl (by omega) (by omega) hd1)
  have HS2 := Lib.hid (fun W v (h : Bg W v (m * m)) => shift_sc v (m * m) (2 * e) (2 * e + 600) W h rfl (by omega) (by omega) hd3)
  have HC := Lib.hid (fun W v1 v (h1 : Bg W v1 (sc (-600) M E)) (h2 : Bg W v (sc (-600) (m * m) (2 * e))) => compare_any v1 v (sc (-600) M E) (sc (-600) (m * m) (2 * e)) W h1 h2 hd2 hd4)
  clear hd1 hd2 hd3 hd4 hmn
  generalize m * m = p at *
  have HB := Lib.hid (BoxX.start w 3 (.slice none 0 0) M E N F)
  go_enter Try.func75, Try.ntmps75
  obtain ⟨z0, z1, z2, z3, z4, z5⟩ := HB.out.cells
  go_wp2
  have hA0 := HB.out.kept ((Qt.drewN _ 1).below _)
  go_region_held3 (fun V => V.cell? ⟨w.heap.size, 2, none⟩ = some (.int .i64 M) ∧ V.cell? ⟨w.heap.size, 3, none⟩ = some (.int .i64 E)) (go_keep)
    ((first
      | (go_at_call 57; (with_reducible refine (HN.out _).mono ?_); rintro r1 y1 ⟨v1, rfl, hb1, hl1⟩; have hA1 := hA0.kept hl1; have z2 := hA1.cells.2.2.1; have z3 := hA1.cells.2.2.2.1)
      | (go_at_call 56; (with_reducible refine (HS.out _ _ hb1).mono ?_); rintro r2 y2 ⟨v2, rfl, hb2, hl2⟩; have hA2 := hA1.kept hl2; have z2 := hA2.cells.2.2.1; have z3 := hA2.cells.2.2.2.1)
      | (go_at_call 57; (with_reducible refine (HN2.out _).mono ?_); rintro r3 y3 ⟨v3, rfl, hb3, hl3⟩; have hA3 := hA2.kept hl3; have hb2 := hb2.kept hl3; have z2 := hA3.cells.2.2.1; have z3 := hA3.cells.2.2.2.1)
      | (go_at_call 56; (with_reducible refine (HS2.out _ _ hb3).mono ?_); rintro r4 y4 ⟨v4, rfl, hb4, hl4⟩; have hA4 := hA3.kept hl4; have hb2 := hb2.kept hl4; have z2 := hA4.cells.2.2.1; have z3 := hA4.cells.2.2.2.1)
      | (go_at_call 69; (with_reducible refine (HC.out _ _ _ hb2 hb4).mono ?_); rintro r5 y5 ⟨rfl, hl5⟩; have hA5 := hA4.kept hl5; have z2 := hA5.cells.2.2.1; have z3 := hA5.cells.2.2.2.1)))
  go_wp2
  go_ret
  exact ⟨rfl, hA5.bel⟩
end Go.Proofs.Ytoaecmoihbifoaa
