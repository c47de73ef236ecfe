/-
  Reals: from chapter 3's Nj, what is needed here.
-/
import Derived.Test.YthadfopkacbnlaaRNi
namespace Go.Proofs.Ythadfopkacbnlaa.n03
open Go.RowKit Go.K Go.R
open Ieee (Format Datum)
set_option linter.unusedVariables false
set_option linter.unusedSimpArgs false
theorem ext_sqrt (b : Nat) : Extern.MathSqrt.sqrt #[.float .f64 b] = (match FloatKind.f64.format.sqrt b with | some r => pure (.float .f64 r) | none => do pure (.float .f64 (← choose (.nanBits .f64 b b)))) := rfl
theorem call78_some {b r : Nat} (w : World) (h : Ieee.double.sqrt b = some r) : (callFunc 65 #[.float .f64 b]).run Try.prog w = .ok (.value (.float .f64 r)) w := by
  rw [run_callFunc_extern (e := Extern.MathSqrt.sqrt) Try.func65 (by kernel_rfl) (by kernel_rfl) (by kernel_rfl) (by kernel_rfl)]
  have h2 : FloatKind.f64.format.sqrt b = some r := h
  rw [ext_sqrt, h2]
  rfl
theorem call78_none {b : Nat} (w : World) (h : Ieee.double.sqrt b = none) : (callFunc 65 #[.float .f64 b]).run Try.prog w = .ok (.value (.float .f64 (Question.cut (.nanBits .f64 b b) (w.tape w.drawn (.nanBits .f64 b b))))) w.drew := by
  rw [run_callFunc_extern (e := Extern.MathSqrt.sqrt) Try.func65 (by kernel_rfl) (by kernel_rfl) (by kernel_rfl) (by kernel_rfl)]
  have h2 : FloatKind.f64.format.sqrt b = none := h
  have hf : (Question.nanBits .f64 b b).forced = false := rfl
  rw [ext_sqrt, h2]
  simp [run_choose_drew, hf]
theorem dnan_gen (a q : Nat) (h1 : a < 2) (h2 : q < 4503599627370495) : ∃ s f, Ieee.double.read (a * 9223372036854775808 + 9218868437227405312 + 1 + q) = .nan s f := by
  unfold Format.read
  rw [double_sign, double_binade, double_inf]
  dsimp only
  rcases (by omega : a = 0 ∨ a = 1) with rfl | rfl
  · rw [if_neg (by omega), if_neg (by omega), if_neg (by omega)]
    exact ⟨_, _, rfl⟩
  · rw [if_neg (by omega), if_neg (by omega), if_neg (by omega)]
    exact ⟨_, _, rfl⟩
theorem p63 : (2 : Nat) ^ 63 = 9223372036854775808 := by decide
theorem dnan_bits (x y t : Nat) : ∃ s f, Ieee.double.read (Question.cut (.nanBits .f64 x y) t) = .nan s f := by
  have h : Question.cut (.nanBits .f64 x y) t = (t % 2) * 2 ^ 63 + 0x7ff0000000000000 + 1 + (t / 2) % (2 ^ 52 - 1) := rfl
  rw [h, p63, p52]
  exact dnan_gen _ _ (Nat.mod_lt _ (by decide)) (Nat.mod_lt _ (by decide))
theorem dnan_conv (x t : Nat) : ∃ s f, Ieee.double.read (Question.cut (.nanConv .f64 x) t) = .nan s f := by
  have h : Question.cut (.nanConv .f64 x) t = (t % 2) * 2 ^ 63 + 0x7ff0000000000000 + 1 + (t / 2) % (2 ^ 52 - 1) := rfl
  rw [h, p63, p52]
  exact dnan_gen _ _ (Nat.mod_lt _ (by decide)) (Nat.mod_lt _ (by decide))
theorem snan_conv (x t : Nat) : nanW (Question.cut (.nanConv .f32 x) t) = true := cut_nan x x t
theorem run_widen_nan {w : World} {x : Nat} {s : Bool} {f : Nat} (h : Ieee.single.read x = .nan s f) :
    (convert 29 104 (.float .f32 x)).run Try.prog w = .ok (.float .f64 (Question.cut (.nanConv .f64 x) (w.tape w.drawn (.nanConv .f64 x)))) w.drew := by
  have hs : Try.prog.underlying 29 = some (.float .f32) := by kernel_rfl
  have hd : Try.prog.underlying 104 = some (.float .f64) := by kernel_rfl
  have hf : (Question.nanConv .f64 x).forced = false := rfl
  have hr : FloatKind.f32.decode x = .nan s f := h
  simp [convert, run_underlying hs, run_underlying hd, Conv.floatToFloat, hr, run_choose_drew, hf]
theorem run_narrow_nan {w : World} {x : Nat} {s : Bool} {f : Nat} (h : Ieee.double.read x = .nan s f) :
    (convert 104 29 (.float .f64 x)).run Try.prog w = .ok (.float .f32 (Question.cut (.nanConv .f32 x) (w.tape w.drawn (.nanConv .f32 x)))) w.drew := by
  have hs : Try.prog.underlying 104 = some (.float .f64) := by kernel_rfl
  have hd : Try.prog.underlying 29 = some (.float .f32) := by kernel_rfl
  have hf : (Question.nanConv .f32 x).forced = false := rfl
  have hr : FloatKind.f64.decode x = .nan s f := h
  simp [convert, run_underlying hs, run_underlying hd, Conv.floatToFloat, hr, run_choose_drew, hf]
theorem run_widen {w : World} {x r : Nat} (h : floatToFloatBits .f32 x .f64 = some r) : (convert 29 104 (.float .f32 x)).run Try.prog w = .ok (.float .f64 r) w :=
  run_convert_float_float w 29 104 .f32 .f64 x r (by kernel_rfl) (by kernel_rfl) h
theorem run_narrow {w : World} {x r : Nat} (h : floatToFloatBits .f64 x .f32 = some r) : (convert 104 29 (.float .f64 x)).run Try.prog w = .ok (.float .f32 r) w :=
  run_convert_float_float w 104 29 .f64 .f32 x r (by kernel_rfl) (by kernel_rfl) h
/-- The root by way of 53 digits, of a word whose root is a number. -/
theorem psqrt_some (x b1 b2 r : Nat) (w : World) (h1 : floatToFloatBits .f32 x .f64 = some b1) (h2 : Ieee.double.sqrt b1 = some b2) (h3 : floatToFloatBits .f64 b2 .f32 = some r) :
    Calls Try.prog 39 #[.float .f32 x] w fun e w' => e = .returned (.float .f32 (cleanW r)) ∧ Qt w w' := by
  have hr1 := run_widen (w := w) h1
  have hr2 := call78_some w h2
  have hr3 := run_narrow (w := w) h3
  have H58 : Calls Try.prog 53 #[.float .f64 b1] w fun e w' => e = .returned (.float .f64 b2) ∧ w = w' := by
    go_enter Try.func53, Try.ntmps53
    go_wp2
    go_ret
    exact ⟨rfl, rfl⟩
  have HC := Lib.hid H58
  clear H58 hr2 h1 h2 h3
  go_enter Try.func39, Try.ntmps39
  go_wp2_with ((first | (go_at_call 53; refine HC.out.mono ?_; rintro e w1 ⟨rfl, rfl⟩) | (go_at_call 37; refine (clean_any r _).mono ?_; rintro e w1 ⟨rfl, rfl⟩)))
  go_ret
  exact ⟨rfl, Qt.refl _⟩
theorem msqrt_none (b : Nat) (w : World) (h : Ieee.double.sqrt b = none) : Calls Try.prog 53 #[.float .f64 b] w fun e w' => ∃ n, e = .returned (.float .f64 n) ∧ (∃ s f, Ieee.double.read n = .nan s f) ∧ Qt w w' := by
  have hr2 := call78_none w h
  have HD := Lib.hid (dnan_bits b b (w.tape w.drawn (.nanBits .f64 b b)))
  go_enter Try.func53, Try.ntmps53
  go_wp2
  go_ret
  exact ⟨_, rfl, HD.out, Qt.drewN w 1⟩
theorem psqrt_none (x b1 : Nat) (w : World) (h1 : floatToFloatBits .f32 x .f64 = some b1) (h2 : Ieee.double.sqrt b1 = none) :
    Calls Try.prog 39 #[.float .f32 x] w fun e w' => e = .returned (.float .f32 2143289344) ∧ Qt w w' := by
  have hr1 := run_widen (w := w) h1
  have HC := Lib.hid (msqrt_none b1 w h2)
  clear h1 h2
  go_enter Try.func39, Try.ntmps39
  go_wp2_with fail
  refine HC.out.mono ?_
  rintro e w1 ⟨n, rfl, ⟨s, f, hn⟩, hq⟩
  have hr3 := run_narrow_nan (w := w1) hn
  have HN := Lib.hid (cleanW_nan (snan_conv n (w1.tape w1.drawn (.nanConv .f32 n))))
  have HQ := Lib.hid hq
  clear hq hn
  go_wp2_with (go_at_call 37; refine (clean_any _ _).mono ?_; rintro e w1 ⟨rfl, rfl⟩)
  go_ret
  exact ⟨by rw [HN.out]; rfl, HQ.out.trans (Qt.drewN w1 1)⟩
theorem double_root_nan {n : Nat} {s : Bool} {f : Nat} (h : Ieee.double.read n = .nan s f) : Ieee.double.sqrt n = none := by
  unfold Format.sqrt
  rw [h]; rfl
theorem psqrt_nan (x : Nat) (w : World) (h : nanW x = true) :
    Calls Try.prog 39 #[.float .f32 x] w fun e w' => e = .returned (.float .f32 2143289344) ∧ Qt w w' := by
  obtain ⟨s, f, hx⟩ := read_nan h
  have hr1 := run_widen_nan (w := w) hx
  obtain ⟨s1, f1, hn1⟩ := dnan_conv x (w.tape w.drawn (.nanConv .f64 x))
  have HC := Lib.hid (msqrt_none _ w.drew (double_root_nan hn1))
  clear hx hn1 h
  go_enter Try.func39, Try.ntmps39
  go_wp2_with fail
  refine HC.out.mono ?_
  rintro e w1 ⟨n, rfl, ⟨s, f, hn⟩, hq⟩
  have hr3 := run_narrow_nan (w := w1) hn
  have HN := Lib.hid (cleanW_nan (snan_conv n (w1.tape w1.drawn (.nanConv .f32 n))))
  have HQ := Lib.hid hq
  clear hq hn
  go_wp2_with (go_at_call 37; refine (clean_any _ _).mono ?_; rintro e w1 ⟨rfl, rfl⟩)
  go_ret
  exact ⟨by rw [HN.out]; rfl, ((Qt.drewN w 1).trans HQ.out).trans (Qt.drewN w1 1)⟩
end Go.Proofs.Ythadfopkacbnlaa.n03

