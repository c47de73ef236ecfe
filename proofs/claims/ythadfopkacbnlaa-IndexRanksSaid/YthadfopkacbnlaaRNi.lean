/-
  Reals: from chapter 3's Ni, what is needed here.
-/
import Derived.Test.YthadfopkacbnlaaRNh
import Derived.Laws.NewFold
namespace Go.Proofs.Ythadfopkacbnlaa.n03
open Go.RowKit Go.K Go.R
set_option linter.unusedVariables false
set_option linter.unusedSimpArgs false
theorem cut_nan (x y t : Nat) : nanW (Question.cut (.nanBits .f32 x y) t) = true := by
  have h : Question.cut (.nanBits .f32 x y) t = (t % 2) * 2 ^ 31 + 0x7f800000 + 1 + (t / 2) % (2 ^ 23 - 1) := rfl
  rw [h]
  unfold nanW
  have p1 : (2 : Nat) ^ 31 = 2147483648 := by decide
  have p2 : (2 : Nat) ^ 23 = 8388608 := by decide
  rw [p1, p2]
  have h1 : t % 2 < 2 := Nat.mod_lt _ (by decide)
  have h2 : t / 2 % (8388608 - 1) < 8388607 := Nat.mod_lt _ (by decide)
  generalize t % 2 = a at *
  generalize t / 2 % (8388608 - 1) = q at *
  rcases (by omega : a = 0 ∨ a = 1) with rfl | rfl <;> exact decide_eq_true (by omega)
theorem cleanW_nan {x : Nat} (h : nanW x = true) : cleanW x = 2143289344 := by unfold cleanW; rw [h]; rfl
theorem run_arith_none {w : World} (op : BinOp) (t : TypeId) (x y : Nat) (hop : op = .add ∨ op = .sub ∨ op = .mul ∨ op = .quo) (h : floatBits op .f32 x y = none) :
    (binOp op t (.float .f32 x) (.float .f32 y)).run Try.prog w = .ok (.float .f32 (Question.cut (.nanBits .f32 x y) (w.tape w.drawn (.nanBits .f32 x y)))) w.drew := by
  have hf : (Question.nanBits .f32 x y).forced = false := rfl
  unfold floatBits at h
  rcases hop with rfl | rfl | rfl | rfl <;> simp only at h <;> simp [binOp, Op.floatArith, h, run_choose_drew, hf]
theorem padd_any (x y : Nat) (w : World) : Calls Try.prog 25 #[.float .f32 x, .float .f32 y] w fun r w' => r = .returned (.float .f32 (opW (Ieee.single.add x y))) ∧ Qt w w' := by
  cases hs : Ieee.single.add x y with
  | some r =>
    have h : floatBits .add .f32 x y = some r := hs
    have hr := run_float_arith (P := Try.prog) w .add 29 .f32 x y r h
    go_enter Try.func25, Try.ntmps25
    go_wp2_with (go_at_call 37; refine (clean_any r _).mono ?_; rintro e w1 ⟨rfl, rfl⟩)
    go_ret
    exact ⟨rfl, Qt.refl _⟩
  | none =>
    have h : floatBits .add .f32 x y = none := hs
    have hr := run_arith_none (w := w) .add 29 x y (.inl rfl) h
    have HN := Lib.hid (cleanW_nan (cut_nan x y (w.tape w.drawn (.nanBits .f32 x y))))
    go_enter Try.func25, Try.ntmps25
    go_wp2_with (go_at_call 37; refine (clean_any _ _).mono ?_; rintro e w1 ⟨rfl, rfl⟩)
    go_ret
    exact ⟨by rw [HN.out]; rfl, Qt.drewN w 1⟩
theorem psub_any (x y : Nat) (w : World) : Calls Try.prog 23 #[.float .f32 x, .float .f32 y] w fun r w' => r = .returned (.float .f32 (opW (Ieee.single.sub x y))) ∧ Qt w w' := by
  cases hs : Ieee.single.sub x y with
  | some r =>
    have h : floatBits .sub .f32 x y = some r := hs
    have hr := run_float_arith (P := Try.prog) w .sub 29 .f32 x y r h
    go_enter Try.func23, Try.ntmps23
    go_wp2_with (go_at_call 37; refine (clean_any r _).mono ?_; rintro e w1 ⟨rfl, rfl⟩)
    go_ret
    exact ⟨rfl, Qt.refl _⟩
  | none =>
    have h : floatBits .sub .f32 x y = none := hs
    have hr := run_arith_none (w := w) .sub 29 x y (.inr (.inl rfl)) h
    have HN := Lib.hid (cleanW_nan (cut_nan x y (w.tape w.drawn (.nanBits .f32 x y))))
    go_enter Try.func23, Try.ntmps23
    go_wp2_with (go_at_call 37; refine (clean_any _ _).mono ?_; rintro e w1 ⟨rfl, rfl⟩)
    go_ret
    exact ⟨by rw [HN.out]; rfl, Qt.drewN w 1⟩
theorem pmul_any (x y : Nat) (w : World) : Calls Try.prog 40 #[.float .f32 x, .float .f32 y] w fun r w' => r = .returned (.float .f32 (opW (Ieee.single.mul x y))) ∧ Qt w w' := by
  cases hs : Ieee.single.mul x y with
  | some r =>
    have h : floatBits .mul .f32 x y = some r := hs
    have hr := run_float_arith (P := Try.prog) w .mul 29 .f32 x y r h
    go_enter Try.func40, Try.ntmps40
    go_wp2_with (go_at_call 37; refine (clean_any r _).mono ?_; rintro e w1 ⟨rfl, rfl⟩)
    go_ret
    exact ⟨rfl, Qt.refl _⟩
  | none =>
    have h : floatBits .mul .f32 x y = none := hs
    have hr := run_arith_none (w := w) .mul 29 x y (.inr (.inr (.inl rfl))) h
    have HN := Lib.hid (cleanW_nan (cut_nan x y (w.tape w.drawn (.nanBits .f32 x y))))
    go_enter Try.func40, Try.ntmps40
    go_wp2_with (go_at_call 37; refine (clean_any _ _).mono ?_; rintro e w1 ⟨rfl, rfl⟩)
    go_ret
    exact ⟨by rw [HN.out]; rfl, Qt.drewN w 1⟩
theorem pdiv_any (x y : Nat) (w : World) : Calls Try.prog 38 #[.float .f32 x, .float .f32 y] w fun r w' => r = .returned (.float .f32 (opW (Ieee.single.div x y))) ∧ Qt w w' := by
  cases hs : Ieee.single.div x y with
  | some r =>
    have h : floatBits .quo .f32 x y = some r := hs
    have hr := run_float_arith (P := Try.prog) w .quo 29 .f32 x y r h
    go_enter Try.func38, Try.ntmps38
    go_wp2_with (go_at_call 37; refine (clean_any r _).mono ?_; rintro e w1 ⟨rfl, rfl⟩)
    go_ret
    exact ⟨rfl, Qt.refl _⟩
  | none =>
    have h : floatBits .quo .f32 x y = none := hs
    have hr := run_arith_none (w := w) .quo 29 x y (.inr (.inr (.inr rfl))) h
    have HN := Lib.hid (cleanW_nan (cut_nan x y (w.tape w.drawn (.nanBits .f32 x y))))
    go_enter Try.func38, Try.ntmps38
    go_wp2_with (go_at_call 37; refine (clean_any _ _).mono ?_; rintro e w1 ⟨rfl, rfl⟩)
    go_ret
    exact ⟨by rw [HN.out]; rfl, Qt.drewN w 1⟩
end Go.Proofs.Ythadfopkacbnlaa.n03

