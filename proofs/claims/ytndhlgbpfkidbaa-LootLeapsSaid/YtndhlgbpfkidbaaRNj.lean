/-
  Reals: from chapter 3's Nj, what is needed here.
-/
import Derived.Test.YtndhlgbpfkidbaaRNi
namespace Go.Proofs.Ytndhlgbpfkidbaa.n03
open Go.RowKit Go.K Go.R
open Ieee (Format Datum)
set_option linter.unusedVariables false
set_option linter.unusedSimpArgs false
theorem dnan_gen (a q : Nat) (h1 : a < 2) (h2 : q < 4503599627370495) : ∃ s f, Ieee.double.read (a * 9223372036854775808 + 9218868437227405312 + 1 + q) = .nan s f := by
  unfold Format.read
  rw [double_sign, double_binade, double_inf]
  dsimp only
  rcases (by omega : a = 0 ∨ a = 1) with rfl | rfl
  · rw [if_neg (by omega), if_neg (by omega), if_neg (by omega)]
    exact ⟨_, _, rfl⟩
  · rw [if_neg (by omega), if_neg (by omega), if_neg (by omega)]
    exact ⟨_, _, rfl⟩
theorem p63 : (2 : Nat) ^ 63 = 9223372036854775808 := by decide
theorem dnan_conv (x t : Nat) : ∃ s f, Ieee.double.read (Question.cut (.nanConv .f64 x) t) = .nan s f := by
  have h : Question.cut (.nanConv .f64 x) t = (t % 2) * 2 ^ 63 + 0x7ff0000000000000 + 1 + (t / 2) % (2 ^ 52 - 1) := rfl
  rw [h, p63, p52]
  exact dnan_gen _ _ (Nat.mod_lt _ (by decide)) (Nat.mod_lt _ (by decide))
theorem snan_conv (x t : Nat) : nanW (Question.cut (.nanConv .f32 x) t) = true := cut_nan x x t
theorem run_widen_nan {w : World} {x : Nat} {s : Bool} {f : Nat} (h : Ieee.single.read x = .nan s f) :
    (convert 58 61 (.float .f32 x)).run Try.prog w = .ok (.float .f64 (Question.cut (.nanConv .f64 x) (w.tape w.drawn (.nanConv .f64 x)))) w.drew := by
  have hs : Try.prog.underlying 58 = some (.float .f32) := by kernel_rfl
  have hd : Try.prog.underlying 61 = some (.float .f64) := by kernel_rfl
  have hf : (Question.nanConv .f64 x).forced = false := rfl
  have hr : FloatKind.f32.decode x = .nan s f := h
  simp [convert, run_underlying hs, run_underlying hd, Conv.floatToFloat, hr, run_choose_drew, hf]
theorem run_narrow_nan {w : World} {x : Nat} {s : Bool} {f : Nat} (h : Ieee.double.read x = .nan s f) :
    (convert 61 58 (.float .f64 x)).run Try.prog w = .ok (.float .f32 (Question.cut (.nanConv .f32 x) (w.tape w.drawn (.nanConv .f32 x)))) w.drew := by
  have hs : Try.prog.underlying 61 = some (.float .f64) := by kernel_rfl
  have hd : Try.prog.underlying 58 = some (.float .f32) := by kernel_rfl
  have hf : (Question.nanConv .f32 x).forced = false := rfl
  have hr : FloatKind.f64.decode x = .nan s f := h
  simp [convert, run_underlying hs, run_underlying hd, Conv.floatToFloat, hr, run_choose_drew, hf]
theorem run_widen {w : World} {x r : Nat} (h : floatToFloatBits .f32 x .f64 = some r) : (convert 58 61 (.float .f32 x)).run Try.prog w = .ok (.float .f64 r) w :=
  run_convert_float_float w 58 61 .f32 .f64 x r (by kernel_rfl) (by kernel_rfl) h
theorem run_narrow {w : World} {x r : Nat} (h : floatToFloatBits .f64 x .f32 = some r) : (convert 61 58 (.float .f64 x)).run Try.prog w = .ok (.float .f32 r) w :=
  run_convert_float_float w 61 58 .f64 .f32 x r (by kernel_rfl) (by kernel_rfl) h
end Go.Proofs.Ytndhlgbpfkidbaa.n03

