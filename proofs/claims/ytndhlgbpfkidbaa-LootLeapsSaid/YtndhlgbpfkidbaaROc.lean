/-
  Reals: from chapter 3's Oc, what is needed here.
-/
import Derived.Test.YtndhlgbpfkidbaaROb
import Derived.Maps.OwnSet
import Derived.MapKept
namespace Go.Proofs.Ytndhlgbpfkidbaa.n03
open Go.RowKit Go.K Go.R
open Ieee (Format Datum Toward)
open Go.MapKept
set_option linter.unusedVariables false
set_option linter.unusedSimpArgs false
theorem make75 (w : World) : (Instr.makeMap 115 none).run Try.prog w = .ok (.map (some w.heap.size)) (w.alloc (.map #[] 0)) := by
  simp [Instr.makeMap, run_underlying Try.underlying115, Result.andThen]
/-- A block of the world set anew. -/
def setB (W : World) (g : Nat) (o : Obj) : World := { W with heap := W.heap.setIfInBounds g o }
theorem upd75 {W : World} {g c : Nat} {es : Array MapEntry} (n : Int) (v : Value) (h : W.heap[g]? = some (.map es c)) (hf : Instr.findNow (.int .i64) (.int .i64 n) es.toList 0 = some none) :
    (Instr.mapUpdate 115 (.map (some g)) (.int .i64 n) v).run Try.prog W = .ok () (setB W g (.map (es.push ⟨.int .i64 n, v, c⟩) (c + 1))) := by
  have hu3 : Try.prog.underlying 3 = some (.int .i64) := by kernel_rfl
  have hck := fun W => run_checkKey (P := Try.prog) (w := W) hu3 (show IsKey (.int .i64) (.int .i64 n) from by simp [IsKey]) false 9999
  have h9 : (9999 : Nat) + 1 = 10000 := rfl
  rw [h9] at hck
  unfold Instr.mapUpdate Instr.findKey
  simp only [Sem.run_bind, run_underlying Try.underlying115, run_underlying hu3, Result.andThen_ok]
  simp [hck, hf, h, setB, run_underlying hu3, getObj, setObj, Sem.run]
theorem look75 {W : World} {g c i : Nat} {es : Array MapEntry} (n : Int) (v : Value) (h : W.heap[g]? = some (.map es c)) (hf : Instr.findNow (.int .i64) (.int .i64 n) es.toList 0 = some (some (i, v))) :
    (Instr.lookup 115 (.map (some g)) (.int .i64 n) false).run Try.prog W = .ok v W := by
  have hu3 : Try.prog.underlying 3 = some (.int .i64) := by kernel_rfl
  have hck := fun W e => run_checkKey (P := Try.prog) (w := W) hu3 (show IsKey (.int .i64) (.int .i64 n) from by simp [IsKey]) e 9999
  have h9 : (9999 : Nat) + 1 = 10000 := rfl
  rw [h9] at hck
  unfold Instr.lookup Instr.findKey
  simp only [Sem.run_bind, run_underlying Try.underlying115, run_underlying hu3, Result.andThen_ok]
  simp [hck, hf, h, run_underlying hu3, getObj, Sem.run]
theorem look75_none {W : World} {g c : Nat} {es : Array MapEntry} (n : Int) (h : W.heap[g]? = some (.map es c)) (hf : Instr.findNow (.int .i64) (.int .i64 n) es.toList 0 = some none) :
    (Instr.lookup 115 (.map (some g)) (.int .i64 n) false).run Try.prog W = .ok .nilFunc W := by
  have hu3 : Try.prog.underlying 3 = some (.int .i64) := by kernel_rfl
  have hz : (zeroValue 114).run Try.prog W = .ok .nilFunc W := by kernel_rfl
  have hck := fun W e => run_checkKey (P := Try.prog) (w := W) hu3 (show IsKey (.int .i64) (.int .i64 n) from by simp [IsKey]) e 9999
  have h9 : (9999 : Nat) + 1 = 10000 := rfl
  rw [h9] at hck
  unfold Instr.lookup Instr.findKey
  simp only [Sem.run_bind, run_underlying Try.underlying115, run_underlying hu3, Result.andThen_ok]
  simp [hck, hf, h, hz, run_underlying hu3, getObj, Sem.run]
theorem setB_at {W : World} {g : Nat} {o : Obj} (h : g < W.heap.size) : (setB W g o).heap[g]? = some o := by unfold setB; simp [h]
theorem setB_size (W : World) (g : Nat) (o : Obj) : (setB W g o).heap.size = W.heap.size := by unfold setB; simp
theorem setB_below {B : Nat} {w W : World} {g : Nat} (o : Obj) (h : Below B w W) (hg : B ≤ g) : Below B w (setB W g o) :=
  h.trans ⟨rfl, rfl, rfl, by rw [setB_size]; exact Nat.le_refl _, fun k hk => by
    show (W.heap.setIfInBounds g o)[k]? = W.heap[k]?
    rw [Array.getElem?_setIfInBounds_ne (by omega)]⟩
def fn (f : FuncId) : Value := .func (Fn.func f) #[] #[]
/-- The four ways as they are laid down. -/
def es1 : Array MapEntry := #[⟨.int .i64 1, fn 65, 0⟩]
def es2 : Array MapEntry := es1.push ⟨.int .i64 2, fn 66, 1⟩
def es3 : Array MapEntry := es2.push ⟨.int .i64 3, fn 67, 2⟩
def es4 : Array MapEntry := es3.push ⟨.int .i64 4, fn 68, 3⟩
theorem ways (w : World) : ∃ W1 W2 W3 W4, (Instr.mapUpdate 115 (.map (some w.heap.size)) (.int .i64 1) (fn 65)).run Try.prog (w.alloc (.map #[] 0)) = .ok () W1 ∧ (Instr.mapUpdate 115 (.map (some w.heap.size)) (.int .i64 2) (fn 66)).run Try.prog W1 = .ok () W2 ∧
    (Instr.mapUpdate 115 (.map (some w.heap.size)) (.int .i64 3) (fn 67)).run Try.prog W2 = .ok () W3 ∧ (Instr.mapUpdate 115 (.map (some w.heap.size)) (.int .i64 4) (fn 68)).run Try.prog W3 = .ok () W4 ∧ W4.heap[w.heap.size]? = some (.map es4 4) ∧ Below w.heap.size w W4 := by
  have h0 : (w.alloc (.map #[] 0)).heap[w.heap.size]? = some (.map #[] 0) := alloc_at rfl
  have s0 : w.heap.size < (w.alloc (.map #[] 0)).heap.size := by simp
  have b0 : Below w.heap.size w (w.alloc (.map #[] 0)) := (Below.refl _ _).alloc (Nat.le_refl _) _
  have u1 := upd75 1 (fn 65) h0 (by kernel_rfl)
  have h1 : (setB (w.alloc (.map #[] 0)) w.heap.size (.map es1 1)).heap[w.heap.size]? = some (.map es1 1) := setB_at s0
  have b1 := setB_below (.map es1 1) b0 (Nat.le_refl _)
  have s1 : w.heap.size < (setB (w.alloc (.map #[] 0)) w.heap.size (.map es1 1)).heap.size := by rw [setB_size]; exact s0
  have u1' : (Instr.mapUpdate 115 (.map (some w.heap.size)) (.int .i64 1) (fn 65)).run Try.prog (w.alloc (.map #[] 0)) = .ok () (setB (w.alloc (.map #[] 0)) w.heap.size (.map es1 1)) := u1
  clear u1
  generalize setB (w.alloc (.map #[] 0)) w.heap.size (.map es1 1) = W1 at *
  have u2 : (Instr.mapUpdate 115 (.map (some w.heap.size)) (.int .i64 2) (fn 66)).run Try.prog W1 = .ok () (setB W1 w.heap.size (.map es2 2)) := upd75 2 (fn 66) h1 (by kernel_rfl)
  have h2 : (setB W1 w.heap.size (.map es2 2)).heap[w.heap.size]? = some (.map es2 2) := setB_at s1
  have b2 := setB_below (.map es2 2) b1 (Nat.le_refl _)
  have s2 : w.heap.size < (setB W1 w.heap.size (.map es2 2)).heap.size := by rw [setB_size]; exact s1
  generalize setB W1 w.heap.size (.map es2 2) = W2 at *
  have u3 : (Instr.mapUpdate 115 (.map (some w.heap.size)) (.int .i64 3) (fn 67)).run Try.prog W2 = .ok () (setB W2 w.heap.size (.map es3 3)) := upd75 3 (fn 67) h2 (by kernel_rfl)
  have h3 : (setB W2 w.heap.size (.map es3 3)).heap[w.heap.size]? = some (.map es3 3) := setB_at s2
  have b3 := setB_below (.map es3 3) b2 (Nat.le_refl _)
  have s3 : w.heap.size < (setB W2 w.heap.size (.map es3 3)).heap.size := by rw [setB_size]; exact s2
  generalize setB W2 w.heap.size (.map es3 3) = W3 at *
  have u4 : (Instr.mapUpdate 115 (.map (some w.heap.size)) (.int .i64 4) (fn 68)).run Try.prog W3 = .ok () (setB W3 w.heap.size (.map es4 4)) := upd75 4 (fn 68) h3 (by kernel_rfl)
  exact ⟨W1, W2, W3, _, u1', u2, u3, u4, setB_at s3, setB_below _ b3 (Nat.le_refl _)⟩
theorem eqlIn74 (d : Nat) (f : Fn) (a b : Array Value) (w : World) : (Op.equalIn (d + 1) 114 (.func f a b) .nilFunc).run Try.prog w = .ok false w := by
  simp [Op.equalIn, run_underlying Try.underlying114]
theorem eqlIn74n (d : Nat) (w : World) : (Op.equalIn (d + 1) 114 .nilFunc .nilFunc).run Try.prog w = .ok true w := by
  simp [Op.equalIn, run_underlying Try.underlying114]
theorem eql74 (f : Fn) (a b : Array Value) (w : World) : (binOp .eql 114 (.func f a b) .nilFunc).run Try.prog w = .ok (.bool false) w := by
  have h : (Op.equal 114 (.func f a b) .nilFunc).run Try.prog w = .ok false w := eqlIn74 9999 f a b w
  simp only [binOp]
  simp [h]
theorem eql74n (w : World) : (binOp .eql 114 .nilFunc .nilFunc).run Try.prog w = .ok (.bool true) w := by
  have h : (Op.equal 114 .nilFunc .nilFunc).run Try.prog w = .ok true w := eqlIn74n 9999 w
  simp only [binOp]
  simp [h]
theorem find_none (way : Int) (h : way < 1 ∨ 4 < way) : Instr.findNow (.int .i64) (.int .i64 way) es4.toList 0 = some none := by
  have h1 : (way == 1) = false := by rw [beq_eq_false_iff_ne]; omega
  have h2 : (way == 2) = false := by rw [beq_eq_false_iff_ne]; omega
  have h3 : (way == 3) = false := by rw [beq_eq_false_iff_ne]; omega
  have h4 : (way == 4) = false := by rw [beq_eq_false_iff_ne]; omega
  have e : es4.toList = [⟨.int .i64 1, fn 65, 0⟩, ⟨.int .i64 2, fn 66, 1⟩, ⟨.int .i64 3, fn 67, 2⟩, ⟨.int .i64 4, fn 68, 3⟩] := rfl
  rw [e]
  simp [Instr.findNow, Instr.sameNow, h1, h2, h3, h4]
theorem ext_good (name : String) (way : Toward) (b : Nat) (h : (Ieee.double.read b).isNaN = false) : Extern.MathFloor.toIntegral name way #[.float .f64 b] = pure (.float .f64 (Ieee.double.write ((Ieee.double.read b).integral way))) := by
  have e : Extern.MathFloor.toIntegral name way #[.float .f64 b] = (match Ieee.double.read b with
    | .nan s t => if Ieee.double.quiet t = t then pure (.float .f64 b) else do
      let kept ← choose (.extern "math.Floor,Ceil,Trunc,RoundToEven.signallingNaN kept" 2)
      pure (.float .f64 (if kept == 1 then b else Ieee.double.write (.nan s (Ieee.double.quiet t))))
    | d => pure (.float .f64 (Ieee.double.write (d.integral way)))) := rfl
  rw [e]
  cases hd : Ieee.double.read b with
  | nan s t => rw [hd] at h; cases h
  | infinity s => rfl
  | number s m p => rfl
theorem dread_nan {b : Nat} {s : Bool} {t : Nat} (h : Ieee.double.read b = .nan s t) : 0 < t ∧ t < 4503599627370496 := by
  unfold Format.read at h
  rw [double_least, double_binade, double_inf, double_sign] at h
  dsimp only at h
  have hm : b % 9223372036854775808 < 9223372036854775808 := Nat.mod_lt _ (by decide)
  generalize b % 9223372036854775808 = r at *
  by_cases c1 : r < 4503599627370496
  · rw [if_pos c1] at h; cases h
  · rw [if_neg c1] at h
    by_cases c2 : r < 9218868437227405312
    · rw [if_pos c2] at h; cases h
    · rw [if_neg c2] at h
      by_cases c3 : r = 9218868437227405312
      · rw [if_pos c3] at h; cases h
      · rw [if_neg c3] at h
        injection h with _ h2
        omega
theorem quiet_nan (s : Bool) (t : Nat) (ht : t < 4503599627370496) : ∃ s' f, Ieee.double.read (Ieee.double.write (.nan s (Ieee.double.quiet t))) = .nan s' f := by
  have hq : Ieee.double.quiet t = t ||| 2 ^ 51 := rfl
  have h1 : 2251799813685248 ≤ t ||| 2 ^ 51 := by
    have : 2 ^ 51 ≤ t ||| 2 ^ 51 := Nat.right_le_or
    have p : (2 : Nat) ^ 51 = 2251799813685248 := by decide
    rw [p] at this ⊢; exact this
  have h2 : t ||| 2 ^ 51 < 4503599627370496 := by
    have : t ||| 2 ^ 51 < 2 ^ 52 := Nat.or_lt_two_pow (by rw [p52]; exact ht) (by decide)
    rw [p52] at this; exact this
  have hw : Ieee.double.write (.nan s (Ieee.double.quiet t)) = Ieee.double.word s (Ieee.double.infRung + Ieee.double.quiet t % Ieee.double.binade) := rfl
  rw [hw, double_inf, double_binade, hq, Nat.mod_eq_of_lt h2]
  have hw2 : ∀ r, Ieee.double.word s r = (if s then 1 else 0) * 9223372036854775808 + r := fun r => by
    unfold Format.word; rw [double_sign]; cases s <;> simp
  rw [hw2]
  obtain ⟨q, hq2⟩ : ∃ q, t ||| 2 ^ 51 = 1 + q := ⟨(t ||| 2 ^ 51) - 1, by omega⟩
  rw [hq2]
  have := dnan_gen (if s then 1 else 0) q (by cases s <;> decide) (by omega)
  rw [Nat.add_assoc, Nat.add_assoc] at this
  exact this
theorem ext_nan (name : String) (way : Toward) (b : Nat) (w : World) {s : Bool} {t : Nat} (h : Ieee.double.read b = .nan s t) : ∃ n w', (Extern.MathFloor.toIntegral name way #[.float .f64 b]).run Try.prog w = .ok (.float .f64 n) w' ∧ (∃ s t, Ieee.double.read n = .nan s t) ∧ Qt w w' := by
  have e : Extern.MathFloor.toIntegral name way #[.float .f64 b] = (match Ieee.double.read b with
    | .nan s t => if Ieee.double.quiet t = t then pure (.float .f64 b) else do
      let kept ← choose (.extern "math.Floor,Ceil,Trunc,RoundToEven.signallingNaN kept" 2)
      pure (.float .f64 (if kept == 1 then b else Ieee.double.write (.nan s (Ieee.double.quiet t))))
    | d => pure (.float .f64 (Ieee.double.write (d.integral way)))) := rfl
  rw [e, h]
  dsimp only
  by_cases hq : Ieee.double.quiet t = t
  · rw [if_pos hq]
    exact ⟨b, w, rfl, ⟨s, t, h⟩, Qt.refl _⟩
  · rw [if_neg hq]
    have hf : (Question.extern "math.Floor,Ceil,Trunc,RoundToEven.signallingNaN kept" 2).forced = false := rfl
    generalize Question.extern "math.Floor,Ceil,Trunc,RoundToEven.signallingNaN kept" 2 = Q at *
    refine ⟨if (Q.cut (w.tape w.drawn Q) == 1) = true then b else Ieee.double.write (.nan s (Ieee.double.quiet t)), w.drew, ?_, ?_, Qt.drewN w 1⟩
    · simp only [Sem.run_bind, run_choose_drew, hf, Bool.false_eq_true, if_false, Result.andThen_ok, Sem.run_pure]
    · split
      · exact ⟨s, t, h⟩
      · exact quiet_nan s t (dread_nan h).2
theorem call79_good {b b2 : Nat} (w : World) (h : (Ieee.double.read b).isNaN = false) (h2 : Ieee.double.write ((Ieee.double.read b).integral .zero) = b2) : (callFunc 92 #[.float .f64 b]).run Try.prog w = .ok (.value (.float .f64 b2)) w := by
  rw [run_callFunc_extern (e := Extern.MathFloor.toIntegral "math.archTrunc" .zero) Try.func92 (by kernel_rfl) (by kernel_rfl) (by kernel_rfl) (by kernel_rfl), ext_good _ _ b h, h2]
  rfl
theorem call79_nan {b : Nat} {s : Bool} {t : Nat} (w : World) (h : Ieee.double.read b = .nan s t) : ∃ n w', (callFunc 92 #[.float .f64 b]).run Try.prog w = .ok (.value (.float .f64 n)) w' ∧ (∃ s t, Ieee.double.read n = .nan s t) ∧ Qt w w' := by
  obtain ⟨n, w', h1, h2, h3⟩ := ext_nan "math.archTrunc" .zero b w h
  refine ⟨n, w', ?_, h2, h3⟩
  rw [run_callFunc_extern (e := Extern.MathFloor.toIntegral "math.archTrunc" .zero) Try.func92 (by kernel_rfl) (by kernel_rfl) (by kernel_rfl) (by kernel_rfl), h1]
  rfl
set_option maxRecDepth 100000 in
theorem m59_good (b b2 : Nat) (w : World) (h : (Ieee.double.read b).isNaN = false) (h2 : Ieee.double.write ((Ieee.double.read b).integral .zero) = b2) : Calls Try.prog 65 #[.float .f64 b] w fun e w' => e = .returned (.float .f64 b2) ∧ w = w' := by
  have hr := call79_good w h h2
  clear h h2
  go_enter Try.func65, Try.ntmps65
  go_wp2
  go_ret
  exact ⟨rfl, rfl⟩
set_option maxRecDepth 100000 in
theorem m59_nan (b : Nat) (s : Bool) (t : Nat) (w : World) (h : Ieee.double.read b = .nan s t) : Calls Try.prog 65 #[.float .f64 b] w fun e w' => ∃ n, e = .returned (.float .f64 n) ∧ (∃ s t, Ieee.double.read n = .nan s t) ∧ Qt w w' := by
  obtain ⟨n, w', hr, hn, hq⟩ := call79_nan w h
  have HN := Lib.hid hn
  have HQ := Lib.hid hq
  clear h hn hq
  go_enter Try.func65, Try.ntmps65
  go_wp2
  go_ret
  exact ⟨_, rfl, HN.out, HQ.out⟩
set_option maxRecDepth 100000 in
theorem prnd1_good (x b b2 r : Nat) (w : World) (h1 : floatToFloatBits .f32 x .f64 = some b) (h2 : (Ieee.double.read b).isNaN = false) (h3 : Ieee.double.write ((Ieee.double.read b).integral .zero) = b2) (h5 : floatToFloatBits .f64 b2 .f32 = some r) :
    Calls Try.prog 46 #[.float .f32 x, .int .i64 1] w fun e w' => e = .returned (.float .f32 (cleanW r)) ∧ Below w.heap.size w w' := by
  have hm := make75
  obtain ⟨W1, W2, W3, W4, u1, u2, u3, u4, h4, hb⟩ := ways w
  have hl := look75 (i := 0) 1 (fn 65) h4 (by kernel_rfl)
  unfold fn at u1 u2 u3 u4 hl
  have HB := Lib.hid hb
  have hnl := eql74 (Fn.func 65) #[] #[] W4
  have hr1 := run_widen (w := W4) h1
  have hr3 := run_narrow (w := W4) h5
  have HC := Lib.hid (m59_good b b2 W4 h2 h3)
  clear h4 hb h1 h2 h3 h5
  go_enter Try.func46, Try.ntmps46
  go_wp2_with ((first | (go_at_call 65; (with_reducible refine HC.out.mono ?_); rintro r1 y1 ⟨rfl, rfl⟩) | (go_at_call 64; refine (clean_any r _).mono ?_; rintro e w1 ⟨rfl, rfl⟩)))
  go_ret
  exact ⟨rfl, HB.out⟩
set_option maxRecDepth 100000 in
theorem prnd1_nan (x : Nat) (w : World) (h : nanW x = true) :
    Calls Try.prog 46 #[.float .f32 x, .int .i64 1] w fun e w' => e = .returned (.float .f32 2143289344) ∧ Below w.heap.size w w' := by
  have hm := make75
  obtain ⟨W1, W2, W3, W4, u1, u2, u3, u4, h4, hb⟩ := ways w
  have hl := look75 (i := 0) 1 (fn 65) h4 (by kernel_rfl)
  unfold fn at u1 u2 u3 u4 hl
  have HB := Lib.hid hb
  have hnl := eql74 (Fn.func 65) #[] #[] W4
  obtain ⟨s, f, hx⟩ := read_nan h
  have hr1 := run_widen_nan (w := W4) hx
  obtain ⟨s1, f1, hn1⟩ := dnan_conv x (W4.tape W4.drawn (.nanConv .f64 x))
  have HC := Lib.hid (m59_nan _ s1 f1 W4.drew hn1)
  clear h4 hb hx hn1 h
  go_enter Try.func46, Try.ntmps46
  go_wp2_with fail
  refine HC.out.mono ?_
  rintro e w1 ⟨n, rfl, ⟨s, f, hn⟩, hq⟩
  have hr3 := run_narrow_nan (w := w1) hn
  have HN := Lib.hid (cleanW_nan (snan_conv n (w1.tape w1.drawn (.nanConv .f32 n))))
  have HQ := Lib.hid hq
  clear hq hn
  go_wp2_with (go_at_call 64; refine (clean_any _ _).mono ?_; rintro e w1 ⟨rfl, rfl⟩)
  go_ret
  exact ⟨by rw [HN.out]; rfl, HB.out.trans (((((Qt.drewN W4 1).trans HQ.out).trans (Qt.drewN w1 1)).below W4.heap.size).mono HB.out.size)⟩
theorem call81_good {b b2 : Nat} (w : World) (h : (Ieee.double.read b).isNaN = false) (h2 : Ieee.double.write ((Ieee.double.read b).integral .down) = b2) : (callFunc 94 #[.float .f64 b]).run Try.prog w = .ok (.value (.float .f64 b2)) w := by
  rw [run_callFunc_extern (e := Extern.MathFloor.toIntegral "math.archFloor" .down) Try.func94 (by kernel_rfl) (by kernel_rfl) (by kernel_rfl) (by kernel_rfl), ext_good _ _ b h, h2]
  rfl
theorem call81_nan {b : Nat} {s : Bool} {t : Nat} (w : World) (h : Ieee.double.read b = .nan s t) : ∃ n w', (callFunc 94 #[.float .f64 b]).run Try.prog w = .ok (.value (.float .f64 n)) w' ∧ (∃ s t, Ieee.double.read n = .nan s t) ∧ Qt w w' := by
  obtain ⟨n, w', h1, h2, h3⟩ := ext_nan "math.archFloor" .down b w h
  refine ⟨n, w', ?_, h2, h3⟩
  rw [run_callFunc_extern (e := Extern.MathFloor.toIntegral "math.archFloor" .down) Try.func94 (by kernel_rfl) (by kernel_rfl) (by kernel_rfl) (by kernel_rfl), h1]
  rfl
set_option maxRecDepth 100000 in
theorem m60_good (b b2 : Nat) (w : World) (h : (Ieee.double.read b).isNaN = false) (h2 : Ieee.double.write ((Ieee.double.read b).integral .down) = b2) : Calls Try.prog 66 #[.float .f64 b] w fun e w' => e = .returned (.float .f64 b2) ∧ w = w' := by
  have hr := call81_good w h h2
  clear h h2
  go_enter Try.func66, Try.ntmps66
  go_wp2
  go_ret
  exact ⟨rfl, rfl⟩
set_option maxRecDepth 100000 in
theorem m60_nan (b : Nat) (s : Bool) (t : Nat) (w : World) (h : Ieee.double.read b = .nan s t) : Calls Try.prog 66 #[.float .f64 b] w fun e w' => ∃ n, e = .returned (.float .f64 n) ∧ (∃ s t, Ieee.double.read n = .nan s t) ∧ Qt w w' := by
  obtain ⟨n, w', hr, hn, hq⟩ := call81_nan w h
  have HN := Lib.hid hn
  have HQ := Lib.hid hq
  clear h hn hq
  go_enter Try.func66, Try.ntmps66
  go_wp2
  go_ret
  exact ⟨_, rfl, HN.out, HQ.out⟩
set_option maxRecDepth 100000 in
theorem prnd2_good (x b b2 r : Nat) (w : World) (h1 : floatToFloatBits .f32 x .f64 = some b) (h2 : (Ieee.double.read b).isNaN = false) (h3 : Ieee.double.write ((Ieee.double.read b).integral .down) = b2) (h5 : floatToFloatBits .f64 b2 .f32 = some r) :
    Calls Try.prog 46 #[.float .f32 x, .int .i64 2] w fun e w' => e = .returned (.float .f32 (cleanW r)) ∧ Below w.heap.size w w' := by
  have hm := make75
  obtain ⟨W1, W2, W3, W4, u1, u2, u3, u4, h4, hb⟩ := ways w
  have hl := look75 (i := 1) 2 (fn 66) h4 (by kernel_rfl)
  unfold fn at u1 u2 u3 u4 hl
  have HB := Lib.hid hb
  have hnl := eql74 (Fn.func 66) #[] #[] W4
  have hr1 := run_widen (w := W4) h1
  have hr3 := run_narrow (w := W4) h5
  have HC := Lib.hid (m60_good b b2 W4 h2 h3)
  clear h4 hb h1 h2 h3 h5
  go_enter Try.func46, Try.ntmps46
  go_wp2_with ((first | (go_at_call 66; (with_reducible refine HC.out.mono ?_); rintro r1 y1 ⟨rfl, rfl⟩) | (go_at_call 64; refine (clean_any r _).mono ?_; rintro e w1 ⟨rfl, rfl⟩)))
  go_ret
  exact ⟨rfl, HB.out⟩
set_option maxRecDepth 100000 in
theorem prnd2_nan (x : Nat) (w : World) (h : nanW x = true) :
    Calls Try.prog 46 #[.float .f32 x, .int .i64 2] w fun e w' => e = .returned (.float .f32 2143289344) ∧ Below w.heap.size w w' := by
  have hm := make75
  obtain ⟨W1, W2, W3, W4, u1, u2, u3, u4, h4, hb⟩ := ways w
  have hl := look75 (i := 1) 2 (fn 66) h4 (by kernel_rfl)
  unfold fn at u1 u2 u3 u4 hl
  have HB := Lib.hid hb
  have hnl := eql74 (Fn.func 66) #[] #[] W4
  obtain ⟨s, f, hx⟩ := read_nan h
  have hr1 := run_widen_nan (w := W4) hx
  obtain ⟨s1, f1, hn1⟩ := dnan_conv x (W4.tape W4.drawn (.nanConv .f64 x))
  have HC := Lib.hid (m60_nan _ s1 f1 W4.drew hn1)
  clear h4 hb hx hn1 h
  go_enter Try.func46, Try.ntmps46
  go_wp2_with fail
  refine HC.out.mono ?_
  rintro e w1 ⟨n, rfl, ⟨s, f, hn⟩, hq⟩
  have hr3 := run_narrow_nan (w := w1) hn
  have HN := Lib.hid (cleanW_nan (snan_conv n (w1.tape w1.drawn (.nanConv .f32 n))))
  have HQ := Lib.hid hq
  clear hq hn
  go_wp2_with (go_at_call 64; refine (clean_any _ _).mono ?_; rintro e w1 ⟨rfl, rfl⟩)
  go_ret
  exact ⟨by rw [HN.out]; rfl, HB.out.trans (((((Qt.drewN W4 1).trans HQ.out).trans (Qt.drewN w1 1)).below W4.heap.size).mono HB.out.size)⟩
theorem call83_good {b b2 : Nat} (w : World) (h : (Ieee.double.read b).isNaN = false) (h2 : Ieee.double.write ((Ieee.double.read b).integral .up) = b2) : (callFunc 96 #[.float .f64 b]).run Try.prog w = .ok (.value (.float .f64 b2)) w := by
  rw [run_callFunc_extern (e := Extern.MathFloor.toIntegral "math.archCeil" .up) Try.func96 (by kernel_rfl) (by kernel_rfl) (by kernel_rfl) (by kernel_rfl), ext_good _ _ b h, h2]
  rfl
theorem call83_nan {b : Nat} {s : Bool} {t : Nat} (w : World) (h : Ieee.double.read b = .nan s t) : ∃ n w', (callFunc 96 #[.float .f64 b]).run Try.prog w = .ok (.value (.float .f64 n)) w' ∧ (∃ s t, Ieee.double.read n = .nan s t) ∧ Qt w w' := by
  obtain ⟨n, w', h1, h2, h3⟩ := ext_nan "math.archCeil" .up b w h
  refine ⟨n, w', ?_, h2, h3⟩
  rw [run_callFunc_extern (e := Extern.MathFloor.toIntegral "math.archCeil" .up) Try.func96 (by kernel_rfl) (by kernel_rfl) (by kernel_rfl) (by kernel_rfl), h1]
  rfl
set_option maxRecDepth 100000 in
theorem m61_good (b b2 : Nat) (w : World) (h : (Ieee.double.read b).isNaN = false) (h2 : Ieee.double.write ((Ieee.double.read b).integral .up) = b2) : Calls Try.prog 67 #[.float .f64 b] w fun e w' => e = .returned (.float .f64 b2) ∧ w = w' := by
  have hr := call83_good w h h2
  clear h h2
  go_enter Try.func67, Try.ntmps67
  go_wp2
  go_ret
  exact ⟨rfl, rfl⟩
set_option maxRecDepth 100000 in
theorem m61_nan (b : Nat) (s : Bool) (t : Nat) (w : World) (h : Ieee.double.read b = .nan s t) : Calls Try.prog 67 #[.float .f64 b] w fun e w' => ∃ n, e = .returned (.float .f64 n) ∧ (∃ s t, Ieee.double.read n = .nan s t) ∧ Qt w w' := by
  obtain ⟨n, w', hr, hn, hq⟩ := call83_nan w h
  have HN := Lib.hid hn
  have HQ := Lib.hid hq
  clear h hn hq
  go_enter Try.func67, Try.ntmps67
  go_wp2
  go_ret
  exact ⟨_, rfl, HN.out, HQ.out⟩
set_option maxRecDepth 100000 in
theorem prnd3_good (x b b2 r : Nat) (w : World) (h1 : floatToFloatBits .f32 x .f64 = some b) (h2 : (Ieee.double.read b).isNaN = false) (h3 : Ieee.double.write ((Ieee.double.read b).integral .up) = b2) (h5 : floatToFloatBits .f64 b2 .f32 = some r) :
    Calls Try.prog 46 #[.float .f32 x, .int .i64 3] w fun e w' => e = .returned (.float .f32 (cleanW r)) ∧ Below w.heap.size w w' := by
  have hm := make75
  obtain ⟨W1, W2, W3, W4, u1, u2, u3, u4, h4, hb⟩ := ways w
  have hl := look75 (i := 2) 3 (fn 67) h4 (by kernel_rfl)
  unfold fn at u1 u2 u3 u4 hl
  have HB := Lib.hid hb
  have hnl := eql74 (Fn.func 67) #[] #[] W4
  have hr1 := run_widen (w := W4) h1
  have hr3 := run_narrow (w := W4) h5
  have HC := Lib.hid (m61_good b b2 W4 h2 h3)
  clear h4 hb h1 h2 h3 h5
  go_enter Try.func46, Try.ntmps46
  go_wp2_with ((first | (go_at_call 67; (with_reducible refine HC.out.mono ?_); rintro r1 y1 ⟨rfl, rfl⟩) | (go_at_call 64; refine (clean_any r _).mono ?_; rintro e w1 ⟨rfl, rfl⟩)))
  go_ret
  exact ⟨rfl, HB.out⟩
set_option maxRecDepth 100000 in
theorem prnd3_nan (x : Nat) (w : World) (h : nanW x = true) :
    Calls Try.prog 46 #[.float .f32 x, .int .i64 3] w fun e w' => e = .returned (.float .f32 2143289344) ∧ Below w.heap.size w w' := by
  have hm := make75
  obtain ⟨W1, W2, W3, W4, u1, u2, u3, u4, h4, hb⟩ := ways w
  have hl := look75 (i := 2) 3 (fn 67) h4 (by kernel_rfl)
  unfold fn at u1 u2 u3 u4 hl
  have HB := Lib.hid hb
  have hnl := eql74 (Fn.func 67) #[] #[] W4
  obtain ⟨s, f, hx⟩ := read_nan h
  have hr1 := run_widen_nan (w := W4) hx
  obtain ⟨s1, f1, hn1⟩ := dnan_conv x (W4.tape W4.drawn (.nanConv .f64 x))
  have HC := Lib.hid (m61_nan _ s1 f1 W4.drew hn1)
  clear h4 hb hx hn1 h
  go_enter Try.func46, Try.ntmps46
  go_wp2_with fail
  refine HC.out.mono ?_
  rintro e w1 ⟨n, rfl, ⟨s, f, hn⟩, hq⟩
  have hr3 := run_narrow_nan (w := w1) hn
  have HN := Lib.hid (cleanW_nan (snan_conv n (w1.tape w1.drawn (.nanConv .f32 n))))
  have HQ := Lib.hid hq
  clear hq hn
  go_wp2_with (go_at_call 64; refine (clean_any _ _).mono ?_; rintro e w1 ⟨rfl, rfl⟩)
  go_ret
  exact ⟨by rw [HN.out]; rfl, HB.out.trans (((((Qt.drewN W4 1).trans HQ.out).trans (Qt.drewN w1 1)).below W4.heap.size).mono HB.out.size)⟩
theorem call62_good {b b2 : Nat} (w : World) (h : (Ieee.double.read b).isNaN = false) (h2 : Ieee.double.write ((Ieee.double.read b).integral .even) = b2) : (callFunc 68 #[.float .f64 b]).run Try.prog w = .ok (.value (.float .f64 b2)) w := by
  rw [run_callFunc_extern (e := Extern.MathFloor.toIntegral "math.RoundToEven" .even) Try.func68 (by kernel_rfl) (by kernel_rfl) (by kernel_rfl) (by kernel_rfl), ext_good _ _ b h, h2]
  rfl
theorem call62_nan {b : Nat} {s : Bool} {t : Nat} (w : World) (h : Ieee.double.read b = .nan s t) : ∃ n w', (callFunc 68 #[.float .f64 b]).run Try.prog w = .ok (.value (.float .f64 n)) w' ∧ (∃ s t, Ieee.double.read n = .nan s t) ∧ Qt w w' := by
  obtain ⟨n, w', h1, h2, h3⟩ := ext_nan "math.RoundToEven" .even b w h
  refine ⟨n, w', ?_, h2, h3⟩
  rw [run_callFunc_extern (e := Extern.MathFloor.toIntegral "math.RoundToEven" .even) Try.func68 (by kernel_rfl) (by kernel_rfl) (by kernel_rfl) (by kernel_rfl), h1]
  rfl
set_option maxRecDepth 100000 in
theorem prnd4_good (x b b2 r : Nat) (w : World) (h1 : floatToFloatBits .f32 x .f64 = some b) (h2 : (Ieee.double.read b).isNaN = false) (h3 : Ieee.double.write ((Ieee.double.read b).integral .even) = b2) (h5 : floatToFloatBits .f64 b2 .f32 = some r) :
    Calls Try.prog 46 #[.float .f32 x, .int .i64 4] w fun e w' => e = .returned (.float .f32 (cleanW r)) ∧ Below w.heap.size w w' := by
  have hm := make75
  obtain ⟨W1, W2, W3, W4, u1, u2, u3, u4, h4, hb⟩ := ways w
  have hl := look75 (i := 3) 4 (fn 68) h4 (by kernel_rfl)
  unfold fn at u1 u2 u3 u4 hl
  have HB := Lib.hid hb
  have hnl := eql74 (Fn.func 68) #[] #[] W4
  have hr1 := run_widen (w := W4) h1
  have hr3 := run_narrow (w := W4) h5
  have hr2 := call62_good W4 h2 h3
  clear h4 hb h1 h2 h3 h5
  go_enter Try.func46, Try.ntmps46
  go_wp2_with ((first | (go_at_call 64; refine (clean_any r _).mono ?_; rintro e w1 ⟨rfl, rfl⟩)))
  go_ret
  exact ⟨rfl, HB.out⟩
set_option maxRecDepth 100000 in
theorem prnd4_nan (x : Nat) (w : World) (h : nanW x = true) :
    Calls Try.prog 46 #[.float .f32 x, .int .i64 4] w fun e w' => e = .returned (.float .f32 2143289344) ∧ Below w.heap.size w w' := by
  have hm := make75
  obtain ⟨W1, W2, W3, W4, u1, u2, u3, u4, h4, hb⟩ := ways w
  have hl := look75 (i := 3) 4 (fn 68) h4 (by kernel_rfl)
  unfold fn at u1 u2 u3 u4 hl
  have HB := Lib.hid hb
  have hnl := eql74 (Fn.func 68) #[] #[] W4
  obtain ⟨s, f, hx⟩ := read_nan h
  have hr1 := run_widen_nan (w := W4) hx
  obtain ⟨s1, f1, hn1⟩ := dnan_conv x (W4.tape W4.drawn (.nanConv .f64 x))
  obtain ⟨n, w1, hr2, ⟨s2, f2, hn⟩, hq⟩ := call62_nan W4.drew hn1
  have hr3 := run_narrow_nan (w := w1) hn
  have HN := Lib.hid (cleanW_nan (snan_conv n (w1.tape w1.drawn (.nanConv .f32 n))))
  have HQ := Lib.hid hq
  clear h4 hb hx hn1 h hq hn
  go_enter Try.func46, Try.ntmps46
  go_wp2_with (go_at_call 64; refine (clean_any _ _).mono ?_; rintro e w1 ⟨rfl, rfl⟩)
  go_ret
  exact ⟨by rw [HN.out]; rfl, HB.out.trans (((((Qt.drewN W4 1).trans HQ.out).trans (Qt.drewN w1 1)).below W4.heap.size).mono HB.out.size)⟩
set_option maxRecDepth 100000 in
theorem prnd_nil (x : Nat) (way : Int) (w : World) (hw : way < 1 ∨ 4 < way) :
    Calls Try.prog 46 #[.float .f32 x, .int .i64 way] w fun e w' => e = .returned (.float .f32 2143289344) ∧ Below w.heap.size w w' := by
  have hm := make75
  obtain ⟨W1, W2, W3, W4, u1, u2, u3, u4, h4, hb⟩ := ways w
  have hl := look75_none way h4 (find_none way hw)
  unfold fn at u1 u2 u3 u4
  have HB := Lib.hid hb
  have hnl := eql74n W4
  clear h4 hb hw
  go_enter Try.func46, Try.ntmps46
  go_wp2_with ((first | (go_at_call 62; refine (of_any 2143289344 _).mono ?_; rintro e w1 ⟨rfl, rfl⟩)))
  go_ret
  exact ⟨rfl, HB.out⟩
/-- The four ways, and none. -/
def rndW (x : Nat) (way : Int) : Nat := if way = 1 then rndV .zero x else if way = 2 then rndV .down x else if way = 3 then rndV .up x else if way = 4 then rndV .even x else 2143289344
theorem cleanW_of {r : Nat} (h : nanW r = false) : cleanW r = r := by unfold cleanW; rw [h]; rfl
theorem rnd_good (way : Toward) (x : Nat) (hx : x < 4294967296) (hn : nanW x = false) : ∃ b b2 r, floatToFloatBits .f32 x .f64 = some b ∧ (Ieee.double.read b).isNaN = false ∧ Ieee.double.write ((Ieee.double.read b).integral way) = b2 ∧ floatToFloatBits .f64 b2 .f32 = some r ∧ cleanW r = rndV way x := by
  have hle : rg x ≤ 2139095040 := by
    have := of_decide_eq_false hn
    unfold rg; omega
  unfold rndV
  rw [hn, if_neg (by decide)]
  by_cases h : rg x = 2139095040
  · rw [if_pos h]
    have hk := kind_word hx
    rw [h] at hk
    cases hs : sgn x
    · rw [hs] at hk
      have hx0 : x = 2139095040 := hk
      subst hx0
      exact ⟨9218868437227405312, 9218868437227405312, 2139095040, by kernel_rfl, by kernel_rfl, by cases way <;> kernel_rfl, by kernel_rfl, by kernel_rfl⟩
    · rw [hs] at hk
      have hx0 : x = 4286578688 := hk
      subst hx0
      exact ⟨18442240474082181120, 18442240474082181120, 4286578688, by kernel_rfl, by kernel_rfl, by cases way <;> kernel_rfl, by kernel_rfl, by kernel_rfl⟩
  · rw [if_neg h]
    obtain ⟨b, M, E, b2, h1, h2, h3, h4⟩ := round_word way x (by omega)
    refine ⟨b, b2, _, h1, by rw [h2]; rfl, by rw [h2]; exact h3, h4, ?_⟩
    exact cleanW_of (nan_wd (sgn x) _ (Nat.le_of_lt (near_cut_lt way x (by omega))))
theorem prnd_any (x : Nat) (way : Int) (hx : x < 4294967296) (w : World) : Calls Try.prog 46 #[.float .f32 x, .int .i64 way] w fun e w' => e = .returned (.float .f32 (rndW x way)) ∧ Below w.heap.size w w' := by
  unfold rndW
  by_cases c1 : way = 1
  · rw [if_pos c1]
    subst c1
    cases hn : nanW x
    · obtain ⟨b, b2, r, h1, h2, h3, h4, h5⟩ := rnd_good .zero x hx hn
      rw [← h5]
      exact prnd1_good x b b2 r w h1 h2 h3 h4
    · have : rndV .zero x = 2143289344 := by unfold rndV; rw [if_pos hn]
      rw [this]
      exact prnd1_nan x w hn
  rw [if_neg c1]
  by_cases c2 : way = 2
  · rw [if_pos c2]
    subst c2
    cases hn : nanW x
    · obtain ⟨b, b2, r, h1, h2, h3, h4, h5⟩ := rnd_good .down x hx hn
      rw [← h5]
      exact prnd2_good x b b2 r w h1 h2 h3 h4
    · have : rndV .down x = 2143289344 := by unfold rndV; rw [if_pos hn]
      rw [this]
      exact prnd2_nan x w hn
  rw [if_neg c2]
  by_cases c3 : way = 3
  · rw [if_pos c3]
    subst c3
    cases hn : nanW x
    · obtain ⟨b, b2, r, h1, h2, h3, h4, h5⟩ := rnd_good .up x hx hn
      rw [← h5]
      exact prnd3_good x b b2 r w h1 h2 h3 h4
    · have : rndV .up x = 2143289344 := by unfold rndV; rw [if_pos hn]
      rw [this]
      exact prnd3_nan x w hn
  rw [if_neg c3]
  by_cases c4 : way = 4
  · rw [if_pos c4]
    subst c4
    cases hn : nanW x
    · obtain ⟨b, b2, r, h1, h2, h3, h4, h5⟩ := rnd_good .even x hx hn
      rw [← h5]
      exact prnd4_good x b b2 r w h1 h2 h3 h4
    · have : rndV .even x = 2143289344 := by unfold rndV; rw [if_pos hn]
      rw [this]
      exact prnd4_nan x w hn
  rw [if_neg c4]
  exact prnd_nil x way w (by omega)
end Go.Proofs.Ytndhlgbpfkidbaa.n03

