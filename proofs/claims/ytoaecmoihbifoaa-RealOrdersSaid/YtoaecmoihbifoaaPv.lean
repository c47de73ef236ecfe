/-
  Layer 3, the program: Two, walked.
-/
import Derived.Test.YtoaecmoihbifoaaPt
namespace Go.Proofs.Ytoaecmoihbifoaa
open Go.RowKit Go.K Go.R
set_option linter.unusedVariables false
set_option linter.unusedSimpArgs false
theorem totP_fin (l : List Nat) (h : (sS l).natAbs.log2 ≤ 270) : rg (totP l) < 2139095040 := by
  unfold totP
  split
  · decide
  · unfold rV
    split
    · decide
    · have h0 : 0 < (sS l).natAbs := by omega
      have hn := near_units _ h0 h
      have hk := keptV_le _ h0
      have hlt : Ieee.single.nearest false (sS l).natAbs (-149) < 2139095040 := by rw [hn]; omega
      rw [rg_wd _ _ (by omega)]; exact hlt
theorem neg_flip (s : Nat) (h : s < 4294967296) : Op.negFloat .f32 s = flip s := by
  have h1 : Op.negFloat .f32 s = s ^^^ 2147483648 := rfl
  have h2 := sign_flip s h
  have h3 : bits .xor .u32 (s : Int) 2147483648 = IntKind.u32.wrap (((BitVec.ofInt 32 (s : Int)) ^^^ (BitVec.ofInt 32 2147483648)).toNat : Int) := rfl
  have h4 : (BitVec.ofInt 32 2147483648).toNat = 2147483648 := by decide
  rw [h3, BitVec.toNat_xor, BitVec.ofInt_natCast, BitVec.toNat_ofNat, h4, Nat.mod_eq_of_lt (by exact h)] at h2
  rw [h1]
  have h5 : s ^^^ 2147483648 < 4294967296 := by
    have : s ^^^ 2147483648 < 2 ^ 32 := Nat.xor_lt_two_pow (by exact h) (by decide)
    exact this
  rw [IntKind.wrap_u32] at h2
  omega
theorem ptwo_fin (x y : Nat) (w : World) (hx : x < 4294967296) (hy : y < 4294967296) (fx : rg x < 2139095040) (fy : rg y < 2139095040) (fs : rg (twoS x y) < 2139095040) :
    Calls Try.prog 44 #[.float .f32 x, .float .f32 y] w fun r w' => r = .returned (.tuple #[.float .f32 (twoS x y), .float .f32 (twoR x y)]) ∧ Below w.heap.size w w' := by
  have HA := Lib.hid (fun W => padd_any x y W)
  have hsl := add_lt32 x y
  have HFX := Lib.hid (fun W => pfinite_any x hx W)
  have HFY := Lib.hid (fun W => pfinite_any y hy W)
  have HFS := Lib.hid (fun W => pfinite_any (twoS x y) hsl W)
  have e1 : finW x = true := decide_eq_true fx
  have e2 : finW y = true := decide_eq_true fy
  have e3 : finW (twoS x y) = true := decide_eq_true fs
  rw [e1] at HFX
  rw [e2] at HFY
  rw [e3] at HFS
  have HLG := Lib.hid (rest_small x y hx hy fx fy fs)
  have HR := Lib.hid (show twoR x y = if rg (totV [x, y, flip (twoS x y)]) = 0 then 0 else totV [x, y, flip (twoS x y)] by unfold twoR; rw [e1, e2, e3]; rfl)
  have hfl := rg_flip hsl
  have hfl2 := flip_lt hsl
  have hnf := neg_flip (twoS x y) hsl
  have hx3 : ∀ v ∈ [x, y, flip (twoS x y)], v < 4294967296 ∧ rg v < 2139095040 := by
    intro v hv
    simp only [List.mem_cons, List.not_mem_nil, or_false] at hv
    rcases hv with rfl | rfl | rfl
    · exact ⟨hx, fx⟩
    · exact ⟨hy, fy⟩
    · exact ⟨hfl2, by rw [hfl]; exact fs⟩
  have HT := Lib.hid (show ∀ a c W, Sl W a (fv [x, y, flip (twoS x y)]) → Calls Try.prog 37 #[.slice a 3 c] W fun r w' => r = .returned (.float .f32 (totP [x, y, flip (twoS x y)])) ∧ Below W.heap.size W w' from fun a c W hs => ptotal_fin [x, y, flip (twoS x y)] a c W (Nat.le_of_ble_eq_true rfl) (Nat.le_of_ble_eq_true rfl) hx3 hs HLG.out)
  have hP : totP [x, y, flip (twoS x y)] = totV [x, y, flip (twoS x y)] := totP_eq _
  obtain ⟨l1, l2⟩ := totV_le [x, y, flip (twoS x y)]
  have hAd : rg (totV [x, y, flip (twoS x y)]) < 2139095040 := by
    rw [← hP]
    exact totP_fin _ HLG.out
  have hadd := add_zero _ l2 hAd
  rw [← HR.out] at hadd
  have hrun := fun W => run_float_arith (P := Try.prog) (w := W) .add 24 .f32 _ _ _ hadd
  rw [hP] at HT
  have HA2 := Lib.hid (show ∀ W, Calls Try.prog 15 #[.float .f32 x, .float .f32 y] W fun r w' => r = .returned (.float .f32 (twoS x y)) ∧ Qt W w' from fun W => padd_any x y W)
  have hneg : ∀ W, (Op.unary .neg (.float .f32 (twoS x y))).run Try.prog W = .ok (.float .f32 (flip (twoS x y))) W := fun W => by rw [← hnf]; rfl
  clear hnf e1 e2 e3 HA hx3 hP l1 l2 hAd hadd HLG HR hfl hfl2 fx fy fs hx hy hsl
  generalize totV [x, y, flip (twoS x y)] = tv at *
  generalize twoR x y = rr at *
  generalize twoS x y = s at *
  generalize flip s = fs at *
  go_enter Try.func44, Try.ntmps44
  go_upto_region 4 with (first
    | (go_at_call 15; (with_reducible refine (HA2.out _).mono ?_); rintro e w1 ⟨rfl, hq⟩; have HQ := Lib.hid hq; clear hq)
    | (go_at_call 65; (with_reducible first | refine (HFX.out _).mono ?_ | refine (HFY.out _).mono ?_ | refine (HFS.out _).mono ?_); rintro e w9 ⟨rfl, rfl⟩))
  have HSL := Lib.hid (show ∀ W : World, Sl (W.alloc (.cells #[.float .f32 x, .float .f32 y, .float .f32 fs] 24)) (some ⟨W.heap.size, 0, none⟩) (fv [x, y, fs]) from fun W hne => ⟨W.heap.size, 0, rfl, fun i hi => by
    rw [Nat.zero_add, cell_of_row _ _ _ _ _ _ (alloc_at rfl)]
    rcases i with _ | _ | _ | i
    · rfl
    · rfl
    · rfl
    · exact absurd hi (by show ¬ _ < 3; omega)⟩)
  go_wp2_with (go_at_call 37; (with_reducible refine (HT.out _ _ _ (HSL.out _)).mono ?_); rintro e w9 ⟨rfl, hb⟩; have HB := Lib.hid hb; clear hb)
  go_ret2
  exact ⟨rfl, ((HQ.out.below w.heap.size).alloc (HQ.out.below w.heap.size).size _).trans (HB.out.mono (Nat.le_trans (HQ.out.below w.heap.size).size (by simp)))⟩
theorem ptwo_none (x y : Nat) (w : World) (hx : x < 4294967296) (hy : y < 4294967296) (h : (finW x && finW y && finW (twoS x y)) = false) :
    Calls Try.prog 44 #[.float .f32 x, .float .f32 y] w fun r w' => r = .returned (.tuple #[.float .f32 (twoS x y), .float .f32 2143289344]) ∧ Below w.heap.size w w' := by
  have hsl := add_lt32 x y
  have HFX := Lib.hid (fun W => pfinite_any x hx W)
  have HFY := Lib.hid (fun W => pfinite_any y hy W)
  have HFS := Lib.hid (fun W => pfinite_any (twoS x y) hsl W)
  have HA2 := Lib.hid (show ∀ W, Calls Try.prog 15 #[.float .f32 x, .float .f32 y] W fun r w' => r = .returned (.float .f32 (twoS x y)) ∧ Qt W w' from fun W => padd_any x y W)
  have HO := Lib.hid (show ∀ W, Calls Try.prog 12 #[.int .u32 2143289344] W fun e w' => e = .returned (.float .f32 2143289344) ∧ W = w' from fun W => by
    have h := of_any 2143289344 W
    have hcz : cleanW 2143289344 = 2143289344 := by decide
    rw [hcz] at h; exact h)
  clear hx hy hsl
  generalize twoS x y = s at *
  cases h1 : finW x
  · rw [h1] at HFX
    clear h1 h
    go_enter Try.func44, Try.ntmps44
    go_wp2_with (first
      | (go_at_call 15; (with_reducible refine (HA2.out _).mono ?_); rintro e w1 ⟨rfl, hq⟩; have HQ := Lib.hid hq; clear hq)
      | (go_at_call 65; (with_reducible first | refine (HFX.out _).mono ?_ | refine (HFY.out _).mono ?_ | refine (HFS.out _).mono ?_); rintro e w9 ⟨rfl, rfl⟩)
      | (go_at_call 12; (with_reducible refine (HO.out _).mono ?_); rintro e w9 ⟨rfl, rfl⟩))
    go_ret2
    exact ⟨rfl, HQ.out.below _⟩
  · cases h2 : finW y
    · rw [h1] at HFX
      rw [h2] at HFY
      clear h1 h2 h
      go_enter Try.func44, Try.ntmps44
      go_wp2_with (first
        | (go_at_call 15; (with_reducible refine (HA2.out _).mono ?_); rintro e w1 ⟨rfl, hq⟩; have HQ := Lib.hid hq; clear hq)
        | (go_at_call 65; (with_reducible first | refine (HFX.out _).mono ?_ | refine (HFY.out _).mono ?_ | refine (HFS.out _).mono ?_); rintro e w9 ⟨rfl, rfl⟩)
        | (go_at_call 12; (with_reducible refine (HO.out _).mono ?_); rintro e w9 ⟨rfl, rfl⟩))
      go_ret2
      exact ⟨rfl, HQ.out.below _⟩
    · have h3 : finW s = false := by rw [h1, h2] at h; exact h
      rw [h1] at HFX
      rw [h2] at HFY
      rw [h3] at HFS
      clear h1 h2 h3 h
      go_enter Try.func44, Try.ntmps44
      go_wp2_with (first
        | (go_at_call 15; (with_reducible refine (HA2.out _).mono ?_); rintro e w1 ⟨rfl, hq⟩; have HQ := Lib.hid hq; clear hq)
        | (go_at_call 65; (with_reducible first | refine (HFX.out _).mono ?_ | refine (HFY.out _).mono ?_ | refine (HFS.out _).mono ?_); rintro e w9 ⟨rfl, rfl⟩)
        | (go_at_call 12; (with_reducible refine (HO.out _).mono ?_); rintro e w9 ⟨rfl, rfl⟩))
      go_ret2
      exact ⟨rfl, HQ.out.below _⟩
theorem ptwo_any (x y : Nat) (hx : x < 4294967296) (hy : y < 4294967296) (w : World) :
    Calls Try.prog 44 #[.float .f32 x, .float .f32 y] w fun r w' => r = .returned (.tuple #[.float .f32 (twoS x y), .float .f32 (twoR x y)]) ∧ Below w.heap.size w w' := by
  cases h : (finW x && finW y && finW (twoS x y))
  · have e : twoR x y = 2143289344 := by unfold twoR; rw [h]; rfl
    rw [e]
    exact ptwo_none x y w hx hy h
  · rw [Bool.and_eq_true, Bool.and_eq_true] at h
    obtain ⟨⟨h1, h2⟩, h3⟩ := h
    exact ptwo_fin x y w hx hy (of_decide_eq_true h1) (of_decide_eq_true h2) (of_decide_eq_true h3)
end Go.Proofs.Ytoaecmoihbifoaa
