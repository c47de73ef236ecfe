/-
  Reals: from chapter 3's Pn, what is needed here.
-/
import Derived.Test.YtndhlgbpfkidbaaRPm
namespace Go.Proofs.Ytndhlgbpfkidbaa.n03
open Go.RowKit Go.K Go.R
open Ieee (Format Datum Toward)
set_option linter.unusedVariables false
set_option linter.unusedSimpArgs false
theorem call91 (b : Nat) (w : World) : (callFunc 73 #[.float .f64 b]).run Try.prog w = .ok (.value (.int .u64 b)) w := by
  rw [run_callFunc_extern (e := Extern.MathFloatBits.float64bits) Try.func73 (by kernel_rfl) (by kernel_rfl) (by kernel_rfl) (by kernel_rfl)]; rfl
theorem call92 (n : Int) (w : World) : (callFunc 76 #[.int .u64 n]).run Try.prog w = .ok (.value (.float .f64 n.toNat)) w := by
  rw [run_callFunc_extern (e := Extern.MathFloatBits.float64frombits) Try.func76 (by kernel_rfl) (by kernel_rfl) (by kernel_rfl) (by kernel_rfl)]; rfl
attribute [local go_sem] call91 call92
theorem andNot_64 (x M : Nat) (q : Nat) (hx : x < 18446744073709551616) (h : ∀ i, i < 64 → (x.testBit i && (!M.testBit i)) = q.testBit i) (hM : M < 18446744073709551616) (hq : q < 18446744073709551616) : bits .andNot .u64 (x : Int) (M : Int) = (q : Int) := by
  show IntKind.u64.wrap (((BitVec.ofInt 64 (x : Int)) &&& ~~~ (BitVec.ofInt 64 (M : Int))).toNat : Int) = _
  have e : (BitVec.ofInt 64 (x : Int) &&& ~~~ BitVec.ofInt 64 (M : Int)) = BitVec.ofNat 64 q := by
    apply BitVec.eq_of_getLsbD_eq
    intro i hi
    rw [BitVec.getLsbD_and, BitVec.getLsbD_not, BitVec.ofInt_natCast, BitVec.ofInt_natCast, BitVec.getLsbD_ofNat, BitVec.getLsbD_ofNat, BitVec.getLsbD_ofNat]
    simp only [hi, decide_true, Bool.true_and]
    exact h i hi
  rw [e, BitVec.toNat_ofNat, IntKind.wrap_u64]
  omega
theorem andNot_top (x : Nat) (hx : x < 9223372036854775808) : bits .andNot .u64 (x : Int) 9223372036854775808 = (x : Int) := by
  refine andNot_64 x 9223372036854775808 x (by omega) ?_ (by decide) (by omega)
  intro i hi
  have e : (9223372036854775808 : Nat) = 2 ^ 63 := by decide
  rw [e, Nat.testBit_two_pow]
  by_cases h : 63 = i
  · subst h
    have : x.testBit 63 = false := Nat.testBit_lt_two_pow (by rw [← e]; exact hx)
    rw [this]; rfl
  · simp [h]
theorem mask_bits : ∀ i, i < 64 → (9218868437227405312 : Nat).testBit i = (decide (52 ≤ i) && decide (i ≠ 63)) := by decide
theorem andNot_exp (x : Nat) (hx : x < 9223372036854775808) : bits .andNot .u64 (x : Int) 9218868437227405312 = ((x % 4503599627370496 : Nat) : Int) := by
  refine andNot_64 x 9218868437227405312 (x % 4503599627370496) (by omega) ?_ (by decide) (by omega)
  intro i hi
  have e : (9223372036854775808 : Nat) = 2 ^ 63 := by decide
  have e2 : (4503599627370496 : Nat) = 2 ^ 52 := by decide
  rw [mask_bits i hi, e2, Nat.testBit_mod_two_pow]
  by_cases h : i = 63
  · subst h
    have : x.testBit 63 = false := Nat.testBit_lt_two_pow (by rw [← e]; exact hx)
    rw [this]; rfl
  · by_cases h2 : 52 ≤ i
    · have h3 : ¬ i < 52 := by omega
      simp [h, h2, h3]
    · have h3 : i < 52 := by omega
      simp [h, h2, h3]
theorem or_exp (f c : Nat) (hf : f < 4503599627370496) (hc : c < 2048) : bits .or .u64 (f : Int) ((c * 4503599627370496 : Nat) : Int) = ((c * 4503599627370496 + f : Nat) : Int) := by
  show IntKind.u64.wrap (((BitVec.ofInt 64 (f : Int)) ||| (BitVec.ofInt 64 ((c * 4503599627370496 : Nat) : Int))).toNat : Int) = _
  have e2 : (4503599627370496 : Nat) = 2 ^ 52 := by decide
  have h1 : (BitVec.ofInt 64 (f : Int) ||| BitVec.ofInt 64 ((c * 4503599627370496 : Nat) : Int)).toNat = c * 4503599627370496 + f := by
    rw [BitVec.toNat_or, BitVec.ofInt_natCast, BitVec.ofInt_natCast, BitVec.toNat_ofNat, BitVec.toNat_ofNat]
    have p64 : (2 : Nat) ^ 64 = 18446744073709551616 := by decide
    rw [p64, Nat.mod_eq_of_lt (by omega), Nat.mod_eq_of_lt (by omega), Nat.or_comm, e2, Nat.mul_comm c, Nat.two_pow_add_eq_or_of_lt (by rw [← e2]; exact hf)]
  rw [h1, IntKind.wrap_u64]; omega
theorem and_2047 (c : Nat) (hc : c < 2048) : bits .and .i64 (c : Int) 2047 = (c : Int) := by
  show IntKind.i64.wrap (((BitVec.ofInt 64 (c : Int)) &&& (BitVec.ofInt 64 2047)).toNat : Int) = _
  have h1 : (BitVec.ofInt 64 (c : Int) &&& BitVec.ofInt 64 2047).toNat = c := by
    have e : (BitVec.ofInt 64 2047).toNat = 2 ^ 11 - 1 := by decide
    rw [BitVec.toNat_and, e, Nat.and_two_pow_sub_one_eq_mod, BitVec.ofInt_natCast, BitVec.toNat_ofNat]
    omega
  rw [h1, IntKind.wrap_i64]; omega
theorem abs_any (b : Nat) (hb : b < 9223372036854775808) (w : World) : Calls Try.prog 98 #[.float .f64 b] w fun e w' => e = .returned (.float .f64 b) ∧ w = w' := by
  have h := andNot_top b hb
  clear hb
  go_enter Try.func98, Try.ntmps98
  go_wp2
  go_ret
  exact ⟨rfl, rfl⟩
theorem isnan_any (b : Nat) (h : FloatKind.f64.format.order b b = some .eq) (w : World) : Calls Try.prog 71 #[.float .f64 b] w fun e w' => e = .returned (.bool false) ∧ w = w' := by
  go_enter Try.func71, Try.ntmps71
  go_wp2
  go_ret
  exact ⟨rfl, rfl⟩
theorem isinf_any (b : Nat) (hb : b < 9223372036854775808) (h : FloatKind.f64.format.order b 9218868437227405311 = some .lt) (w : World) : Calls Try.prog 70 #[.float .f64 b, .int .i64 0] w fun e w' => e = .returned (.bool false) ∧ w = w' := by
  go_enter Try.func70, Try.ntmps70
  go_wp2_with (go_at_call 98; refine (abs_any b hb _).mono ?_; rintro e w1 ⟨rfl, rfl⟩)
  go_ret
  exact ⟨rfl, rfl⟩
theorem norm_any (b : Nat) (hb : b < 9223372036854775808) (h : FloatKind.f64.format.order b 4503599627370496 = some .gt) (w : World) : Calls Try.prog 72 #[.float .f64 b] w fun e w' => e = .returned (.tuple #[.float .f64 b, .int .i64 0]) ∧ w = w' := by
  go_enter Try.func72, Try.ntmps72
  go_wp2_with (go_at_call 98; refine (abs_any b hb _).mono ?_; rintro e w1 ⟨rfl, rfl⟩)
  go_ret2
  exact ⟨rfl, rfl⟩
theorem ldexp_word (b c1 F c2 : Nat) (p q : Int) (w : World) (hb : b < 9223372036854775808)
    (o0 : FloatKind.f64.format.order b 0 = some .gt) (o1 : FloatKind.f64.format.order b 9218868437227405311 = some .lt) (o2 : FloatKind.f64.format.order b 4503599627370496 = some .gt) (o3 : FloatKind.f64.format.order b b = some .eq)
    (hdiv : b / 4503599627370496 = c1) (hmod : b % 4503599627370496 = F) (hF : F < 4503599627370496) (hc1 : c1 < 2047) (hq : q = p + c1 - 1023) (hp : -1000 ≤ p) (hp2 : p ≤ 500) (hq1 : (c2 : Int) = q + 1023) (hq2 : 1 ≤ c2) (hq3 : c2 ≤ 2046)
    (r : Nat) (hr : r = c2 * 4503599627370496 + F) (hm : floatBits .mul .f64 4607182418800017408 r = some r) :
    Calls Try.prog 49 #[.float .f64 b, .int .i64 p] w fun e w' => e = .returned (.float .f64 r) ∧ w = w' := by
  have ha := andNot_exp b hb
  rw [hmod] at ha
  have ho := or_exp F c2 hF (by omega)
  rw [← hr, Int.natCast_mul] at ho
  have ho2 : bits .or .u64 (F : Int) ((c2 : Int) * 4503599627370496) = (r : Int) := ho
  clear ho
  have hn := and_2047 c1 (by omega)
  have hd1 : (b : Int) / 4503599627370496 = (c1 : Int) := by omega
  have w1 : IntKind.i64.wrap (p + 0) = p := by rw [IntKind.wrap_i64]; omega
  have w2 : IntKind.i64.wrap ((c1 : Int) - 1023) = (c1 : Int) - 1023 := by rw [IntKind.wrap_i64]; omega
  have w3 : IntKind.i64.wrap (p + ((c1 : Int) - 1023)) = q := by rw [IntKind.wrap_i64]; omega
  have w4 : IntKind.i64.wrap (q + 1023) = (c2 : Int) := by rw [IntKind.wrap_i64]; omega
  have t1 : decide (q < -1075) = false := decide_eq_false (by omega)
  have t2 : decide (1023 < q) = false := decide_eq_false (by omega)
  have t3 : decide (q < -1022) = false := decide_eq_false (by omega)
  have HA := Lib.hid (fun w => abs_any b hb w)
  have HI := Lib.hid (fun w => isinf_any b hb o1 w)
  have HN := Lib.hid (fun w => isnan_any b o3 w)
  have HO := Lib.hid (fun w => norm_any b hb o2 w)
  have hrm := run_float_arith (P := Try.prog) (w := w) .mul 61 .f64 _ _ _ hm
  clear o1 o2 o3 hb hmod hdiv hq hq1 hr hm
  go_enter Try.func49, Try.ntmps49
  go_wp2_with (first | (go_at_call 70; refine (HI.out _).mono ?_; rintro e w1 ⟨rfl, rfl⟩) | (go_at_call 71; refine (HN.out _).mono ?_; rintro e w1 ⟨rfl, rfl⟩) | (go_at_call 72; refine (HO.out _).mono ?_; rintro e w1 ⟨rfl, rfl⟩))
  go_ret
  exact ⟨rfl, rfl⟩
theorem ldexp_any (c K c2 : Nat) (p : Int) (w : World) (h1 : 4503599627370496 ≤ K) (h2 : K < 9007199254740992) (hc : c < 1800) (hc0 : 0 < c) (hp : (c2 : Int) = c + p) (hp1 : -1000 ≤ p) (hp2 : p ≤ 500) (hc2 : c2 < 1900) :
    Calls Try.prog 49 #[.float .f64 (dW c K), .int .i64 p] w fun e w' => e = .returned (.float .f64 (dW c2 K)) ∧ w = w' := by
  obtain ⟨o0, o1, o2, o3⟩ := dW_order c K h1 h2 (by omega) hc0
  have hm := dmul_one false c2 K h1 h2 hc2
  have hb : dW c K < 9223372036854775808 := by unfold dW; omega
  refine ldexp_word (dW c K) (c + 1) (K - 4503599627370496) (c2 + 1) p (p + (c + 1 : Nat) - 1023) w hb o0 o1 o2 o3 ?_ ?_ (by omega) (by omega) rfl hp1 hp2 (by omega) (by omega) (by omega) (dW c2 K) ?_ hm
  · unfold dW; omega
  · unfold dW; omega
  · unfold dW; omega
theorem pldexp_any (c K c2 : Nat) (p : Int) (w : World) (h1 : 4503599627370496 ≤ K) (h2 : K < 9007199254740992) (hc : c < 1800) (hc0 : 0 < c) (hp : (c2 : Int) = c + p) (hp1 : -1000 ≤ p) (hp2 : p ≤ 500) (hc2 : c2 < 1900) :
    Calls Try.prog 29 #[.float .f64 (dW c K), .int .i64 p] w fun e w' => e = .returned (.float .f64 (dW c2 K)) ∧ w = w' := by
  have H := Lib.hid (fun w => ldexp_any c K c2 p w h1 h2 hc hc0 hp hp1 hp2 hc2)
  generalize dW c K = b at *
  generalize dW c2 K = b2 at *
  clear h1 h2 hc hc0 hp hp1 hp2 hc2
  go_enter Try.func29, Try.ntmps29
  go_wp2_with (go_at_call 49; refine (H.out _).mono ?_; rintro e w1 ⟨rfl, rfl⟩)
  go_ret
  exact ⟨rfl, rfl⟩
end Go.Proofs.Ytndhlgbpfkidbaa.n03

