/-
  Layer 3, the reference: Two.
-/
import Derived.Test.YtoaecmoihbifoaaPc
namespace Go.Proofs.Ytoaecmoihbifoaa
open Go.RowKit Go.K Go.R
set_option linter.unusedVariables false
set_option linter.unusedSimpArgs false
/-- The sum of two, rounded; and what it lacks. -/
def twoS (x y : Nat) : Nat := opW (Ieee.single.add x y)
def twoR (x y : Nat) : Nat := if finW x && finW y && finW (twoS x y) then (if rg (totV [x, y, flip (twoS x y)]) = 0 then 0 else totV [x, y, flip (twoS x y)]) else 2143289344
theorem nearD_le (u d : Nat) (z : Bool) : rg (nearD u d z) ≤ 2139095040 ∧ nearD u d z < 4294967296 := by
  unfold nearD
  split
  · have h := nearest_le (u - d) (-600)
    generalize Ieee.single.nearest false (u - d) (-600) = N at *
    unfold rg; omega
  · split
    · have h := nearest_le (d - u) (-600)
      generalize Ieee.single.nearest false (d - u) (-600) = N at *
      have e : wd true N = 2147483648 + N := rfl
      rw [e]
      unfold rg; omega
    · cases z <;> decide
theorem totV_le (l : List Nat) : rg (totV l) ≤ 2139095040 ∧ totV l < 4294967296 := by
  unfold totV
  split
  · decide
  · exact nearD_le _ _ _
theorem kind_zero (x : Nat) (h : rg x ≤ 2139095040) : (kindW x == 3) = decide (rg x = 0) := by
  have hn : nanW x = false := by rw [nanW_rg]; exact decide_eq_false (by omega)
  unfold kindW rg at *
  rw [hn, if_neg (by decide)]
  by_cases c1 : x % 2147483648 = 2139095040
  · rw [if_pos c1, c1]; decide
  · rw [if_neg c1]
    by_cases c2 : x % 2147483648 = 0
    · rw [if_pos c2, c2]; decide
    · rw [if_neg c2, decide_eq_false c2]
      split <;> decide
theorem opW_lt (o : Option Nat) (h : ∀ r, o = some r → r < 4294967296) : opW o < 4294967296 := by
  cases o with
  | none => decide
  | some r => exact cleanW_lt (h r rfl)
theorem add_lt32 (x y : Nat) : twoS x y < 4294967296 := by
  refine opW_lt _ (fun r h => ?_)
  have h2 := Ieee.Format.add_lt Ieee.single h
  have p : (2 : Nat) ^ Ieee.single.width = 4294967296 := by decide
  rw [p] at h2
  exact h2
set_option maxRecDepth 100000 in
set_option maxHeartbeats 2000000 in
theorem rtwo_any (x y : Nat) (hx : x < 4294967296) (hy : y < 4294967296) (w : World) :
    Calls Try.prog 45 #[.int .u32 (x : Int), .int .u32 (y : Int)] w fun r w' => r = .returned (.tuple #[.int .u32 ((twoS x y : Nat) : Int), .int .u32 ((twoR x y : Nat) : Int)]) ∧ Below w.heap.size w w' := by
  have HA := Lib.hid (fun W => radd_any x y hx hy W)
  have HFX := Lib.hid (fun W => finite_any x W)
  have HFY := Lib.hid (fun W => finite_any y W)
  have HFS := Lib.hid (fun W => finite_any (twoS x y) W)
  have hsl := add_lt32 x y
  have hxor := sign_flip (twoS x y) hsl
  have HTS := Lib.hid (show opW (Ieee.single.add x y) = twoS x y from rfl)
  rw [HTS.out] at HA
  have hb := Below.refl w.heap.size w
  cases hfx : finW x
  · have HR := Lib.hid (show twoR x y = 2143289344 by unfold twoR; rw [hfx]; rfl)
    rw [hfx] at HFX
    clear hfx HFY hsl HTS
    generalize flip (twoS x y) = FS at *
    generalize twoR x y = R at *
    generalize twoS x y = S at *
    go_enter Try.func45, Try.ntmps45
    go_wp2_with ((first | (go_at_call 16; (with_reducible refine (HA.out _).mono ?_); rintro r1 y1 ⟨rfl, hl⟩; have hb := hb.trans (hl.mono hb.size)) | (go_at_call 53; (with_reducible refine (HFX.out _).mono ?_); rintro r1 y1 ⟨rfl, rfl⟩)))
    go_ret2
    exact ⟨by rw [HR.out]; rfl, hb⟩
  · rw [hfx] at HFX
    cases hfy : finW y
    · have HR := Lib.hid (show twoR x y = 2143289344 by unfold twoR; rw [hfx, hfy]; rfl)
      rw [hfy] at HFY
      clear hfx hfy hsl HTS
      generalize flip (twoS x y) = FS at *
      generalize twoR x y = R at *
      generalize twoS x y = S at *
      go_enter Try.func45, Try.ntmps45
      go_wp2_with ((first | (go_at_call 16; (with_reducible refine (HA.out _).mono ?_); rintro r1 y1 ⟨rfl, hl⟩; have hb := hb.trans (hl.mono hb.size)) | (go_at_call 53; (with_reducible refine (HFX.out _).mono ?_); rintro r1 y1 ⟨rfl, rfl⟩) | (go_at_call 53; (with_reducible refine (HFY.out _).mono ?_); rintro r1 y1 ⟨rfl, rfl⟩)))
      go_ret2
      exact ⟨by rw [HR.out]; rfl, hb⟩
    · rw [hfy] at HFY
      cases hfs : finW (twoS x y)
      · have HR := Lib.hid (show twoR x y = 2143289344 by unfold twoR; rw [hfx, hfy, hfs]; rfl)
        rw [hfs] at HFS
        clear hfx hfy hfs hsl HTS
        generalize flip (twoS x y) = FS at *
        generalize twoR x y = R at *
        generalize twoS x y = S at *
        go_enter Try.func45, Try.ntmps45
        go_wp2_with ((first | (go_at_call 16; (with_reducible refine (HA.out _).mono ?_); rintro r1 y1 ⟨rfl, hl⟩; have hb := hb.trans (hl.mono hb.size)) | (go_at_call 53; (with_reducible refine (HFX.out _).mono ?_); rintro r1 y1 ⟨rfl, rfl⟩) | (go_at_call 53; (with_reducible refine (HFY.out _).mono ?_); rintro r1 y1 ⟨rfl, rfl⟩) | (go_at_call 53; (with_reducible refine (HFS.out _).mono ?_); rintro r1 y1 ⟨rfl, rfl⟩)))
        go_ret2
        exact ⟨by rw [HR.out]; rfl, hb⟩
      · rw [hfs] at HFS
        have h1 : rg x < 2139095040 := of_decide_eq_true hfx
        have h2 : rg y < 2139095040 := of_decide_eq_true hfy
        have h3 : rg (twoS x y) < 2139095040 := of_decide_eq_true hfs
        have h4 : rg (flip (twoS x y)) < 2139095040 := by rw [rg_flip hsl]; exact h3
        have HT := Lib.hid (fun W ad (h : Sl W ad (wv [x, y, flip (twoS x y)])) => rtotal_fin [x, y, flip (twoS x y)] ad 3 W (by simp) (by simp) (fun z hz => by
          simp only [List.mem_cons, List.not_mem_nil, or_false] at hz
          rcases hz with rfl | rfl | rfl
          · exact ⟨hx, h1⟩
          · exact ⟨hy, h2⟩
          · exact ⟨flip_lt hsl, h4⟩) h)
        have hwv : wv [x, y, flip (twoS x y)] = [.int .u32 (x : Int), .int .u32 (y : Int), .int .u32 ((flip (twoS x y) : Nat) : Int)] := rfl
        rw [hwv] at HT
        have hll : ([x, y, flip (twoS x y)] : List Nat).length = 3 := rfl
        rw [hll] at HT
        obtain ⟨htl, htl2⟩ := totV_le [x, y, flip (twoS x y)]
        have HK := Lib.hid (fun W => rkind_any (totV [x, y, flip (twoS x y)]) W)
        have hkz := kind_zero (totV [x, y, flip (twoS x y)]) htl
        have HR := Lib.hid (show twoR x y = if rg (totV [x, y, flip (twoS x y)]) = 0 then 0 else totV [x, y, flip (twoS x y)] by unfold twoR; rw [hfx, hfy, hfs]; rfl)
        clear hwv hll hfx hfy hfs hsl HTS h1 h2 h3 h4 htl htl2
        generalize totV [x, y, flip (twoS x y)] = T at *
        generalize flip (twoS x y) = FS at *
        generalize twoR x y = R at *
        generalize twoS x y = S at *
        by_cases hz : rg T = 0
        · rw [decide_eq_true hz] at hkz
          have HR := Lib.hid (show R = 0 by rw [HR.out, if_pos hz])
          clear hz
          generalize kindW T = K at *
          go_enter Try.func45, Try.ntmps45
          go_wp2_with ((first | (go_at_call 16; (with_reducible refine (HA.out _).mono ?_); rintro r1 y1 ⟨rfl, hl⟩; have hb := hb.trans (hl.mono hb.size)) | (go_at_call 53; (with_reducible refine (HFX.out _).mono ?_); rintro r1 y1 ⟨rfl, rfl⟩) | (go_at_call 53; (with_reducible refine (HFY.out _).mono ?_); rintro r1 y1 ⟨rfl, rfl⟩) | (go_at_call 53; (with_reducible refine (HFS.out _).mono ?_); rintro r1 y1 ⟨rfl, rfl⟩) | (go_at_call 38; (with_reducible refine (HT.out _ _ (sl_new _ _ _ _)).mono ?_); rintro r1 y2 ⟨rfl, hl⟩; have hb := (hb.alloc hb.size _).trans (hl.mono (by have := hb.size; simp; omega))) | (go_at_call 14; (with_reducible refine (HK.out _).mono ?_); rintro r1 y1 ⟨rfl, rfl⟩)))
          go_ret2
          exact ⟨by rw [HR.out]; rfl, hb⟩
        · rw [decide_eq_false hz] at hkz
          have HR := Lib.hid (show R = T by rw [HR.out, if_neg hz])
          clear hz
          generalize kindW T = K at *
          go_enter Try.func45, Try.ntmps45
          go_wp2_with ((first | (go_at_call 16; (with_reducible refine (HA.out _).mono ?_); rintro r1 y1 ⟨rfl, hl⟩; have hb := hb.trans (hl.mono hb.size)) | (go_at_call 53; (with_reducible refine (HFX.out _).mono ?_); rintro r1 y1 ⟨rfl, rfl⟩) | (go_at_call 53; (with_reducible refine (HFY.out _).mono ?_); rintro r1 y1 ⟨rfl, rfl⟩) | (go_at_call 53; (with_reducible refine (HFS.out _).mono ?_); rintro r1 y1 ⟨rfl, rfl⟩) | (go_at_call 38; (with_reducible refine (HT.out _ _ (sl_new _ _ _ _)).mono ?_); rintro r1 y2 ⟨rfl, hl⟩; have hb := (hb.alloc hb.size _).trans (hl.mono (by have := hb.size; simp; omega))) | (go_at_call 14; (with_reducible refine (HK.out _).mono ?_); rintro r1 y1 ⟨rfl, rfl⟩)))
          go_ret2
          exact ⟨by rw [HR.out]; rfl, hb⟩
end Go.Proofs.Ytoaecmoihbifoaa
