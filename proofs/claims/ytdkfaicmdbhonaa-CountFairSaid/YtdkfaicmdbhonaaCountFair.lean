/-
  Shares add up to all, none is off by a whole coin, and a greater weight has no smaller share.
  No condition beyond the statement's own.
-/
import Derived.Test.YtdkfaicmdbhonaaTk
import Derived.Test.YtdkfaicmdbhonaaOa
import Derived.Test.YtdkfaicmdbhonaaVa
import Derived.Test.YtdkfaicmdbhonaaVb
import Derived.Deep.DeepCutAuto
import Derived.Deep.CutBlock
import Derived.Deep.RegionHeld3
import Derived.Deep.QuietTactic
import Derived.BigQuiet
namespace Go.Proofs.Ytdkfaicmdbhonaa.lawCountFair
open Go.RowKit Go.K Go.ChangeShapes Go.WideShapes Go.ChangeAt Go.Words
set_option linter.unusedVariables false
set_option linter.unusedSimpArgs false
theorem bl_gt (n : Nat) (h : 18446744073709551616 ≤ n) : 64 < bl n := by
  rcases Nat.lt_or_ge 64 (bl n) with h1 | h1
  · exact h1
  · have := (bl_le n 64).1 h1; omega
set_option maxRecDepth 100000 in
set_option maxHeartbeats 2000000 in
theorem walk_no (t : BitVec 64) (ga : Option Addr) (gc : Nat) (l : List (BitVec 64)) (w : World) (hs : Sl w ga (vQ l)) (hm : l.length ≤ 17592186043904) (hz : ga = none → l.length = 0 ∧ gc = 0) (hok : ¬ okS l) :
    Calls Try.prog 7 #[.int .u64 (U64 t), .slice ga l.length gc] w fun e w' => e = .returned (.bool true) ∧ Below w.heap.size w w' := by
  have HS := Lib.hid hs
  have HZ := Lib.hid hz
  have HM := Lib.hid hm
  obtain ⟨er, her, hne⟩ : ∃ er, er = shE l ∧ (er == 0) = false := by
    refine ⟨_, rfl, ?_⟩
    have : shE l = errS l := if_neg hok
    rw [this, beq_eq_false_iff_ne]
    unfold errS
    split
    · decide
    · split <;> decide
  have hcase : l.length = 0 ∨ 1024 < l.length ∨ (0 < l.length ∧ l.length ≤ 1024 ∧ sumL l = 0) ∨ (0 < l.length ∧ l.length ≤ 1024 ∧ 18446744073709551616 ≤ sumL l) := by
    unfold okS at hok; omega
  have hR : shR t.toNat l = [] := if_neg hok
  have HC := Lib.hid hcase
  have K34 := Lib.hid (fun gf cf V (hV : Lent V l gf cf) => shares_one t l (some ⟨gf, 0, none⟩) cf V HM.out hV.sl)
  rw [hR, ← her] at K34
  have K12 := Lib.hid (lent_any ga gc l w hm hz hs)
  clear hs hz hm hok hcase her hR
  go_enter Try.func7, Try.ntmps7
  go_wp2_with fail
  refine K12.out.mono ?_
  rintro e w1 ⟨gf, cf, rfl, hgf, hle, hb1⟩
  have HB1 := Lib.hid hb1
  have K34 := Lib.hid (K34.out gf cf w1 hle)
  clear hgf hle hb1
  go_wp2_with fail
  refine K34.out.mono ?_
  rintro e w2 ⟨a2, c2, rfl, ho2, _, hb2⟩
  have HB2 := Lib.hid (HB1.out.trans (hb2.mono HB1.out.size))
  have K37 := Lib.hid (all_any ga gc l w2 (by have := HM.out; omega) (HS.out.kept HB2.out))
  clear ho2 hb2 K34
  go_wp2_with fail
  refine K37.out.mono ?_
  rintro e w3 ⟨rfl, hi3, hb3⟩
  have HI3 := Lib.hid hi3
  have HB3 := Lib.hid (HB2.out.trans (hb3.mono HB2.out.size))
  clear hi3 hb3 K37
  generalize w2.heap.size = gA at *
  have HL := Lib.hid (show ((sumL l : Nat) : Int).natAbs < pw 900 by have := sumL_small l l.length (by have := HM.out; omega); rwa [List.take_length] at this)
  go_upto_region 3 with fail
  go_cut [8] from 23 to 40 (fun s8 W => s8 = .bool false ∧ Below w.heap.size w W)
  case first =>
    rcases HC.out with h | h | ⟨h1, h2, h3⟩ | ⟨h1, h2, h3⟩
    · have d1 : decide (0 < (l.length : Int)) = false := decide_eq_false (by omega)
      have d1n : decide (0 < l.length) = false := decide_eq_false (by omega)
      clear h
      go_wp2
      go_meet
      exact ⟨rfl, HB3.out⟩
    · have d1 : decide (0 < (l.length : Int)) = true := decide_eq_true (by omega)
      have d1n : decide (0 < l.length) = true := decide_eq_true (by omega)
      have d2 : decide ((l.length : Int) ≤ 1024) = false := decide_eq_false (by omega)
      have d2n : decide (l.length ≤ 1024) = false := decide_eq_false (by omega)
      clear h
      go_wp2
      go_meet
      exact ⟨rfl, HB3.out⟩
    · have d1 : decide (0 < (l.length : Int)) = true := decide_eq_true (by omega)
      have d1n : decide (0 < l.length) = true := decide_eq_true (by omega)
      have d2 : decide ((l.length : Int) ≤ 1024) = true := decide_eq_true (by omega)
      have d2n : decide (l.length ≤ 1024) = true := decide_eq_true (by omega)
      have K38 := sign_any gA _ w3 HI3.out
      rw [h3, show sgn ((0 : Nat) : Int) = 0 by rfl] at K38
      have K38 := Lib.hid K38
      clear h1 h2 h3
      go_wp2_with fail
      refine K38.out.mono ?_
      rintro e w4 ⟨rfl, rfl⟩
      go_wp2
      go_meet
      exact ⟨rfl, HB3.out⟩
    · have d1 : decide (0 < (l.length : Int)) = true := decide_eq_true (by omega)
      have d1n : decide (0 < l.length) = true := decide_eq_true (by omega)
      have d2 : decide ((l.length : Int) ≤ 1024) = true := decide_eq_true (by omega)
      have d2n : decide (l.length ≤ 1024) = true := decide_eq_true (by omega)
      have K38 := sign_any gA _ w3 HI3.out
      rw [show sgn ((sumL l : Nat) : Int) = 1 by unfold sgn; rw [if_neg (by omega), if_neg (by omega)]] at K38
      have K38 := Lib.hid K38
      have K39 := Lib.hid (bitlen_any gA _ w3 HI3.out HL.out)
      have hbl := bl_gt (((sumL l : Nat) : Int).natAbs) (by omega)
      obtain ⟨bv, hbv⟩ : ∃ bv, bv = bl (((sumL l : Nat) : Int).natAbs) := ⟨_, rfl⟩
      rw [← hbv] at K39 hbl
      have d3 : decide ((bv : Int) ≤ 64) = false := decide_eq_false (by omega)
      have d3n : decide (bv ≤ 64) = false := decide_eq_false (by omega)
      clear h1 h2 h3 hbl hbv
      go_wp2_with fail
      refine K38.out.mono ?_
      rintro e w4 ⟨rfl, rfl⟩
      go_wp2_with fail
      refine K39.out.mono ?_
      rintro e w5 ⟨rfl, hq⟩
      have HB5 := Lib.hid (HB3.out.trans ((hq.below _).mono HB3.out.size))
      clear hq
      go_wp2
      go_meet
      exact ⟨rfl, HB5.out⟩
  case rest =>
    obtain ⟨rfl, hb⟩ := hcut
    have HB4 := Lib.hid hb
    clear hb
    go_wp2_with fail
    refine (awake_any _).mono ?_
    rintro e w5 ⟨rfl, hb5⟩
    have HB5 := Lib.hid (HB4.out.trans (hb5.mono HB4.out.size))
    clear hb5
    go_wp2
    go_ret
    exact ⟨rfl, HB5.out⟩
theorem big_n (x : Nat) (hx : x < 18446744073709551616) (w : World) : Calls Try.prog 26 #[.int .u64 (x : Int)] w fun e w' => e = .returned (.pointer (some ⟨w.heap.size, 0, none⟩)) ∧ IntAt w' w.heap.size (x : Int) ∧ Below w.heap.size w w' := by
  have h := big_any (BitVec.ofNat 64 x) w
  have e : (BitVec.ofNat 64 x).toNat = x := by rw [BitVec.toNat_ofNat, Nat.mod_eq_of_lt (by omega)]
  rw [show U64 (BitVec.ofNat 64 x) = (x : Int) by unfold U64; rw [e], e] at h
  exact h
theorem cells_of {W : World} {a : Option Addr} {l : List (BitVec 64)} (h : Sl W a (vQ l)) (hn : 0 < l.length) : ∃ b o, a = some ⟨b, o, none⟩ ∧ ∀ V, Below W.heap.size W V → ∀ j, j < l.length → V.cell? ⟨b, o + j, none⟩ = some (.int .u64 ((wq l j : Nat) : Int)) := by
  obtain ⟨b, o, e, hc⟩ := h (vQ_ne hn)
  refine ⟨b, o, e, fun V hV j hj => ?_⟩
  have h1 := hc j (by rw [vQ_length]; exact hj)
  rw [vQ_get l j hj] at h1
  rw [wq_get l j hj]
  exact below_cell hV h1
theorem mul_lt' {a b : Nat} (ha : a < 18446744073709551616) (hb : b < 18446744073709551616) : a * b < 340282366920938463463374607431768211456 := by
  have : a * b ≤ 18446744073709551615 * 18446744073709551615 := Nat.mul_le_mul (by omega) (by omega)
  omega
set_option maxRecDepth 100000 in
set_option maxHeartbeats 4000000 in
theorem walk_yes (t : BitVec 64) (ga : Option Addr) (gc : Nat) (l : List (BitVec 64)) (w : World) (hs : Sl w ga (vQ l)) (hm : l.length ≤ 17592186043904) (hz : ga = none → l.length = 0 ∧ gc = 0) (hok : okS l) :
    Calls Try.prog 7 #[.int .u64 (U64 t), .slice ga l.length gc] w fun e w' => e = .returned (.bool true) ∧ Below w.heap.size w w' := by
  have HS := Lib.hid hs
  have HM := Lib.hid hm
  have HT := Lib.hid t.isLt
  have HK := Lib.hid hok
  have hR : shR t.toNat l = shL t.toNat l := if_pos hok
  have hE : shE l = 0 := if_pos hok
  have K34 := Lib.hid (fun gf cf V (hV : Lent V l gf cf) => shares_one t l (some ⟨gf, 0, none⟩) cf V HM.out hV.sl)
  rw [hR, hE, shL_len] at K34
  have K12 := Lib.hid (lent_any ga gc l w hm hz hs)
  obtain ⟨ab, ao, hga, hcell⟩ := cells_of hs hok.1
  have HG := Lib.hid hcell
  subst hga
  obtain ⟨R, hRR⟩ : ∃ R, R = shL t.toNat l := ⟨_, rfl⟩
  have HRL := Lib.hid (show R.length = l.length by rw [hRR]; exact shL_len _ _)
  have HRS := Lib.hid (show sumL R = t.toNat by rw [hRR]; exact sum_sh hok.2.2.1 hok.1 t.isLt)
  have HRW := Lib.hid (show ∀ i, i < l.length → wq R i = shV t.toNat l i from fun i hi => by rw [hRR]; exact wq_sh hok.2.2.1 t.isLt hi)
  rw [← hRR] at K34
  obtain ⟨S, hS⟩ : ∃ S, S = sumL l := ⟨_, rfl⟩
  have HSS := Lib.hid (show 0 < S ∧ S < 18446744073709551616 by rw [hS]; exact ⟨hok.2.2.1, hok.2.2.2⟩)
  have HNEAR := Lib.hid (show ∀ i, (((shV t.toNat l i * S : Nat) : Int) - ((t.toNat * wq l i : Nat) : Int)).natAbs < S by rw [hS]; exact fun i => sh_near hok.2.2.1 i)
  have hSe := Lib.hid hS
  have d1 : decide (0 < (l.length : Int)) = true := decide_eq_true (by have := hok.1; omega)
  have d1n : decide (0 < l.length) = true := decide_eq_true hok.1
  have d2 : decide ((l.length : Int) ≤ 1024) = true := decide_eq_true (by have := hok.2.1; omega)
  have d2n : decide (l.length ≤ 1024) = true := decide_eq_true hok.2.1
  have q0 : ((l.length : Int) != (l.length : Int)) = false := by simp
  clear hs hm hz hok hR hE hcell hRR hS
  go_enter Try.func7, Try.ntmps7
  go_wp2_with fail
  refine K12.out.mono ?_
  rintro e w1 ⟨gf, cf, rfl, hgf, hle, hb1⟩
  have HB1 := Lib.hid hb1
  have K34 := Lib.hid (K34.out gf cf w1 hle)
  clear hgf hle hb1
  go_wp2_with fail
  refine K34.out.mono ?_
  rintro e w2 ⟨a2, c2, rfl, ho2, _, hb2⟩
  have HB2 := Lib.hid (HB1.out.trans (hb2.mono HB1.out.size))
  have HR2 := Lib.hid (show Sl w2 a2 (vQ R) from owns_sl ho2 (by rw [vQ_length]; exact HRL.out))
  have K37 := all_any (some ⟨ab, ao, none⟩) gc l w2 (by have := HM.out; omega) (HS.out.kept HB2.out)
  rw [← hSe.out] at K37
  have K37 := Lib.hid K37
  clear ho2 hb2 K34
  go_wp2_with fail
  refine K37.out.mono ?_
  rintro e w3 ⟨rfl, hi3, hb3⟩
  have HI3 := Lib.hid hi3
  have HB3 := Lib.hid (HB2.out.trans (hb3.mono HB2.out.size))
  have hsl3 := HR2.out.kept hb3
  obtain ⟨sb, so, hsa, hsc⟩ := cells_of hsl3 (by have := HK.out.1; have := HRL.out; omega)
  have HSL := Lib.hid hsl3
  have HH := Lib.hid (show ∀ V, Below w3.heap.size w3 V → ∀ j, j < l.length → V.cell? ⟨sb, so + j, none⟩ = some (.int .u64 ((shV t.toNat l j : Nat) : Int)) from fun V hV j hj => by rw [← HRW.out j hj]; exact hsc V hV j (by rw [HRL.out]; exact hj))
  subst hsa
  clear hi3 hb3 K37 hsl3 hsc HR2
  generalize w2.heap.size = gA at *
  have HL := Lib.hid (show ((S : Nat) : Int).natAbs < pw 900 from pw900_ge _ (by have := HSS.out; omega))
  have K38 := sign_any gA _ w3 HI3.out
  rw [show sgn ((S : Nat) : Int) = 1 by have := HSS.out; unfold sgn; rw [if_neg (by omega), if_neg (by omega)]] at K38
  have K38 := Lib.hid K38
  have K39 := Lib.hid (bitlen_any gA _ w3 HI3.out HL.out)
  have hbl : bl (((S : Nat) : Int).natAbs) ≤ 64 := (bl_le _ 64).2 (by have := HSS.out; omega)
  obtain ⟨bv, hbv⟩ : ∃ bv, bv = bl (((S : Nat) : Int).natAbs) := ⟨_, rfl⟩
  rw [← hbv] at K39 hbl
  have d3 : decide ((bv : Int) ≤ 64) = true := decide_eq_true (by omega)
  have d3n : decide (bv ≤ 64) = true := decide_eq_true hbl
  clear hbl hbv
  go_wp2_with fail
  refine K38.out.mono ?_
  rintro e w4 ⟨rfl, rfl⟩
  go_wp2_with fail
  refine K39.out.mono ?_
  rintro e w5 ⟨rfl, hq⟩
  have HB5 := Lib.hid (show Below w3.heap.size w3 w5 from hq.below _)
  clear hq K38 K39
  go_wp2_with fail
  refine (awake_any _).mono ?_
  rintro e w6 ⟨rfl, hb6⟩
  have HB6 := Lib.hid (HB5.out.trans (hb6.mono HB5.out.size))
  have K37 := all_any (some ⟨sb, so, none⟩) c2 R w6 (by have := HM.out; have := HRL.out; omega) (HSL.out.kept HB6.out)
  rw [HRL.out, HRS.out] at K37
  have K37 := Lib.hid K37
  clear hb6
  go_wp2_with fail
  refine K37.out.mono ?_
  rintro e w7 ⟨rfl, hi7, hb7⟩
  have HI7 := Lib.hid hi7
  have HB7 := Lib.hid (HB6.out.trans (hb7.mono HB6.out.size))
  clear hi7 hb7 K37
  go_wp2_with fail
  refine (big_any t _).mono ?_
  rintro e w8 ⟨rfl, hi8, hb8⟩
  have K33 := cmp_any _ _ _ _ w8 (HI7.out.kept hb8) hi8 (bv_small t) (bv_small t)
  rw [show cmpI ((t.toNat : Nat) : Int) ((t.toNat : Nat) : Int) = 0 by unfold cmpI; rw [if_neg (by omega), if_neg (by omega)]] at K33
  have K33 := Lib.hid K33
  have HB8 := Lib.hid (HB7.out.trans (hb8.mono HB7.out.size))
  clear hi8 hb8
  go_wp2_with fail
  refine K33.out.mono ?_
  rintro e w9 ⟨rfl, hq⟩
  have HB9 := Lib.hid (HB8.out.trans ((hq.below _).mono HB8.out.size))
  clear hq K33 HI7 HB5 HB6 HB7 HB8
  go_wp2
  go_loopw [9, 10, 11, 12, 13] (fun i x10 x11 x12 x13 wr => ∃ k : Nat, k ≤ l.length ∧ i = .int .i64 k ∧ Below w3.heap.size w3 wr) (fun i _ _ _ _ _ => l.length - (intOf i).toNat)
  case atStart => exact ⟨0, Nat.zero_le _, rfl, HB9.out⟩
  case round =>
    obtain ⟨k, hk, rfl, hbl⟩ := hrel
    have HB := Lib.hid hbl
    clear hbl HB9
    by_cases hlt : k < l.length
    case neg =>
      have t0 : decide ((k : Int) < (l.length : Int)) = false := decide_eq_false (by omega)
      have t0n : decide (k < l.length) = false := decide_eq_false hlt
      have HF := Lib.hid (HB3.out.trans (HB.out.mono HB3.out.size))
      go_wp2
      go_ret
      exact ⟨rfl, HF.out⟩
    case pos =>
    have t0 : decide ((k : Int) < (l.length : Int)) = true := decide_eq_true (by omega)
    have t0n : decide (k < l.length) = true := decide_eq_true hlt
    have i1 : (k : Int) < (l.length : Int) := by omega
    have y1 := HG.out wr (HB3.out.trans (HB.out.mono HB3.out.size)) k hlt
    have z1 := HH.out wr HB.out k hlt
    have HX := Lib.hid (show wq l k < 18446744073709551616 ∧ shV t.toNat l k < 18446744073709551616 from ⟨wq_lt _ _, by have := shV_lt (t := t.toNat) HK.out.2.2.1 hlt; have := HT.out; omega⟩)
    have HNR := Lib.hid (HNEAR.out k)
    have HMO := Lib.hid (show ∀ j, j < k → (wq l j < wq l k → shV t.toNat l j ≤ shV t.toNat l k) ∧ (wq l k < wq l j → shV t.toNat l k ≤ shV t.toNat l j) ∧ (wq l j = wq l k → shV t.toNat l k ≤ shV t.toNat l j ∧ shV t.toNat l j - shV t.toNat l k ≤ 1) from
      fun j hj => ⟨fun h => sh_mono HK.out.2.2.1 h, fun h => sh_mono HK.out.2.2.1 h, fun h => sh_same h hj⟩)
    obtain ⟨X, hX⟩ : ∃ X, X = wq l k := ⟨_, rfl⟩
    obtain ⟨Y, hY⟩ : ∃ Y, Y = shV t.toNat l k := ⟨_, rfl⟩
    have HXE := Lib.hid hX
    have HYE := Lib.hid hY
    rw [← hX] at y1 HX HNR HMO
    rw [← hY] at z1 HX HNR HMO
    clear hX hY
    have HKL := Lib.hid hlt
    go_upto_region 13 with fail
    go_cut [10] from 73 to 81 (fun s10 W => ∃ gp, s10 = .pointer (some ⟨gp, 0, none⟩) ∧ IntAt W gp ((t.toNat : Int) * (X : Int)) ∧ Below wr.heap.size wr W)
    case first =>
      clear z1
      have hd : Below wr.heap.size wr wr.drew := below_drawn (Below.refl _ _) _
      go_region_held3 (fun V => V.cell? ⟨ab, ao + k, none⟩ = some (.int .u64 (X : Int))) (go_keep)
        ((first
          | (go_at_call 26; (with_reducible refine (big_any t _).mono ?_); rintro e1 v1 ⟨rfl, hi1, hb1⟩
             have hv1 : Below wr.heap.size wr v1 := (by first | exact hd.trans (hb1.mono (Nat.le_refl _)) | exact (hd.alloc hd.size _).trans (hb1.mono (by simp)))
             have yA := below_cell hv1 y1
             try simp only [World.size_alloc, World.size_drew] at hi1)
          | (go_at_call 26; (with_reducible refine (big_n X HX.out.1 _).mono ?_); rintro e2 v2 ⟨rfl, hi2, hb2⟩
             have hv2 : Below wr.heap.size wr v2 := (by first | exact hv1.trans (hb2.mono hv1.size) | exact (hv1.alloc hv1.size _).trans (hb2.mono (Nat.le_trans hv1.size (by simp))))
             have yB := below_cell hv2 y1
             try simp only [World.size_alloc, World.size_drew] at hi2)
          | (go_at_call 25; refine (mul_any _ _ _ ((t.toNat : Nat) : Int) ((X : Nat) : Int) _ ?_ ?_ ?_ (bv_small t) (pw900_ge _ (by have := HX.out.1; omega))).mono ?_
             · first | exact ((isInt_new wr.drew).kept hb1).kept hb2 | exact (isInt_new v1).kept hb2 | exact isInt_new v2
             · first | exact hi1.kept hb2 | exact (hi1.kept ((Below.refl v1.heap.size v1).alloc (Nat.le_refl _) (.cells #[.bool false, .slice none 0 0] 42))).kept hb2 | exact (hi1.kept hb2).kept ((Below.refl v2.heap.size v2).alloc (Nat.le_refl _) (.cells #[.bool false, .slice none 0 0] 42))
             · first | exact hi2 | exact hi2.kept ((Below.refl v2.heap.size v2).alloc (Nat.le_refl _) (.cells #[.bool false, .slice none 0 0] 42))
             rintro e3 v3 ⟨rfl, hg3, hi3⟩
             have hv3 : Below wr.heap.size wr v3 := (by first | exact hv2.grown hg3 hv2.size (fun k hk => by cases hk; first | exact Nat.le_refl _ | exact hv1.size) | exact (hv2.alloc hv2.size _).grown hg3 (hv2.alloc hv2.size _).size (fun k hk => by cases hk; exact hv2.size))
             have yC := below_cell hv3 y1)))
      all_goals
        have HV3 := Lib.hid hv3
        have HI4 := Lib.hid hi3
        clear hv1 hv2 hv3 hb1 hb2 hi1 hi2 hi3 hg3
        go_wp2
        go_meet
        exact ⟨_, rfl, HI4.out, HV3.out⟩
    case rest =>
    obtain ⟨gp, rfl, hip, hbc⟩ := hcut
    have HBC := Lib.hid (HB.out.trans (hbc.mono HB.out.size))
    have HIP := Lib.hid hip
    have HIA := Lib.hid (HI3.out.kept HBC.out)
    clear hip hbc y1
    have hPb : ((t.toNat : Int) * (X : Int)).natAbs < pw 900 := by
      rw [show (t.toNat : Int) * (X : Int) = ((t.toNat * X : Nat) : Int) by simp]
      exact pw900_ge _ (by rw [Int.natAbs_natCast]; exact mul_lt' HT.out HX.out.1)
    have hMb : ((Y : Int) * (S : Int)).natAbs < pw 900 := by
      rw [show (Y : Int) * (S : Int) = ((Y * S : Nat) : Int) by simp]
      exact pw900_ge _ (by rw [Int.natAbs_natCast]; exact mul_lt' HX.out.2 HSS.out.2)
    have hDb : ((Y : Int) * (S : Int) - (t.toNat : Int) * (X : Int)).natAbs < S := by
      have h := HNR.out
      rw [show ((Y * S : Nat) : Int) = (Y : Int) * (S : Int) by simp, show ((t.toNat * X : Nat) : Int) = (t.toNat : Int) * (X : Int) by simp] at h
      exact h
    have HPB := Lib.hid hPb
    have HMB := Lib.hid hMb
    have HDB := Lib.hid hDb
    clear hPb hMb hDb
    -- mine
    have z1a := HH.out (wc.alloc (.cells #[.bool false, .slice none 0 0] 42)) (HBC.out.alloc HBC.out.size _) k HKL.out
    rw [← HYE.out] at z1a
    go_wp2_with fail
    refine (big_n Y HX.out.2 _).mono ?_
    rintro e w4 ⟨rfl, hi4, hb4⟩
    rw [World.size_alloc] at hi4
    have hal : Below wc.heap.size wc (wc.alloc (.cells #[.bool false, .slice none 0 0] 42)) := (Below.refl _ _).alloc (Nat.le_refl _) _
    have hb4' : Below wc.heap.size wc w4 := hal.trans (hb4.mono (by simp))
    have HN4 := Lib.hid ((isInt_new wc).kept hb4)
    have HY4 := Lib.hid hi4
    have HP4 := Lib.hid (HIP.out.kept hb4')
    have HA4 := Lib.hid (HIA.out.kept hb4')
    have HB4 := Lib.hid (HBC.out.trans (hb4'.mono HBC.out.size))
    have HLT := Lib.hid (show gp < wc.heap.size ∧ gA < wc.heap.size from ⟨by obtain ⟨_, _, _, _, h⟩ := HIP.out.isInt; exact lt_row h, by obtain ⟨_, _, _, _, h⟩ := HIA.out.isInt; exact lt_row h⟩)
    have K25 := Lib.hid (mul_any wc.heap.size (wc.heap.size + 1) gA (Y : Int) (S : Int) w4 HN4.out HY4.out HA4.out (pw900_ge _ (by have := HX.out.2; omega)) HL.out)
    have HWC := Lib.hid (show w3.heap.size ≤ wc.heap.size from HBC.out.size)
    clear hi4 hb4 hal hb4' z1a
    go_wp2_with fail
    refine K25.out.mono ?_
    rintro e w5 ⟨rfl, hg5, hi5⟩
    have HM5 := Lib.hid hi5
    have HP5 := Lib.hid (HP4.out.away HN4.out hg5 (by have := HLT.out; omega))
    have HA5 := Lib.hid (HA4.out.away HN4.out hg5 (by have := HLT.out; omega))
    have HB5 := Lib.hid (show Below w3.heap.size w3 w5 from HB4.out.grown hg5 HB4.out.size (fun j hj => by cases hj; exact HWC.out))
    clear hi5 hg5 K25 HP4 HA4 HY4 HIP HIA
    -- the difference
    go_upto_region 15 with fail
    obtain ⟨w6, hw6⟩ : ∃ w6, w6 = w5.alloc (.cells #[.bool false, .slice none 0 0] 42) := ⟨_, rfl⟩
    have hb6 : Below w5.heap.size w5 w6 := by rw [hw6]; exact (Below.refl _ _).alloc (Nat.le_refl _) _
    have HN6 := Lib.hid (show IsInt w6 w5.heap.size by rw [hw6]; exact isInt_new w5)
    have HM6 := Lib.hid (HM5.out.kept hb6)
    have HP6 := Lib.hid (HP5.out.kept hb6)
    have HA6 := Lib.hid (HA5.out.kept hb6)
    have HB6 := Lib.hid (HB5.out.trans (hb6.mono HB5.out.size))
    have HLT := Lib.hid (show gp < w5.heap.size ∧ gA < w5.heap.size ∧ w3.heap.size ≤ w5.heap.size from ⟨by obtain ⟨_, _, _, _, h⟩ := HP5.out.isInt; exact lt_row h, by obtain ⟨_, _, _, _, h⟩ := HA5.out.isInt; exact lt_row h, HB5.out.size⟩)
    have K41 := Lib.hid (sub_any w5.heap.size wc.heap.size gp _ _ w6 HN6.out HM6.out HP6.out HMB.out HPB.out (by have := HLT.out; omega))
    have HW6 := Lib.hid hw6
    clear hb6 hw6
    go_wp2_with fail
    rw [← HW6.out]
    clear HW6
    refine K41.out.mono ?_
    rintro e w7 ⟨rfl, hg7, hi7⟩
    have HD7 := Lib.hid hi7
    have HA7 := Lib.hid (HA6.out.away HN6.out hg7 (by have := HLT.out; omega))
    have HB7 := Lib.hid (show Below w3.heap.size w3 w7 from HB6.out.grown hg7 HB6.out.size (fun j hj => by cases hj; exact HLT.out.2.2))
    have K42 := Lib.hid (abs_self w5.heap.size _ w7 HD7.out (pw900_ge _ (by have := HDB.out; have := HSS.out; omega)))
    clear hi7 hg7 K41 HM6 HP6 HA6 HM5 HP5 HA5
    go_wp2_with fail
    refine K42.out.mono ?_
    rintro e w8 ⟨rfl, hg8, hi8⟩
    have HD8 := Lib.hid hi8
    have HA8 := Lib.hid (HA7.out.away HD7.out.isInt hg8 (by have := HLT.out; omega))
    have HB8 := Lib.hid (show Below w3.heap.size w3 w8 from HB7.out.grown hg8 HB7.out.size (fun j hj => by cases hj; exact HLT.out.2.2))
    have K33 := cmp_any w5.heap.size gA _ _ w8 HD8.out HA8.out (by rw [Int.natAbs_natCast]; exact pw900_ge _ (by have := HDB.out; have := HSS.out; omega)) HL.out
    rw [show cmpI ((((Y : Int) * (S : Int) - (t.toNat : Int) * (X : Int)).natAbs : Nat) : Int) ((S : Nat) : Int) = -1 by unfold cmpI; rw [if_pos (by have := HDB.out; omega)]] at K33
    have K33 := Lib.hid K33
    clear hi8 hg8 K42
    go_wp2_with fail
    refine K33.out.mono ?_
    rintro e w9 ⟨rfl, hq⟩
    have HB9 := Lib.hid (HB8.out.trans ((hq.below _).mono HB8.out.size))
    clear hq K33
    go_wp2
    go_loopw [13] (fun i wq => ∃ j : Nat, j ≤ k ∧ i = .int .i64 j ∧ Qt w9 wq) (fun i _ => k - (intOf i).toNat)
    case atStart => exact ⟨0, Nat.zero_le _, rfl, Qt.refl _⟩
    case round =>
      obtain ⟨j, hj, rfl, hqt⟩ := hrel
      have HQT := Lib.hid hqt
      have HBQ := Lib.hid (HB9.out.trans ((hqt.below _).mono HB9.out.size))
      clear hqt
      have hlb : l.length ≤ 1024 := HK.out.2.1
      have hkl : k < l.length := HKL.out
      have uk : IntKind.i64.wrap ((k : Int) + 1) = ((k + 1 : Nat) : Int) := by rw [IntKind.wrap_i64]; omega
      have uj : IntKind.i64.wrap ((j : Int) + 1) = ((j + 1 : Nat) : Int) := by rw [IntKind.wrap_i64]; omega
      by_cases hjk : j < k
      case neg =>
        have r0 : decide ((j : Int) < (k : Int)) = false := decide_eq_false (by omega)
        have r0n : decide (j < k) = false := decide_eq_false hjk
        go_wp2
        go_roundw
        case rel => exact ⟨k + 1, HKL.out, by first | rfl | go_num, HBQ.out⟩
        case measure => first | (simp [intOf]; done) | (simp [intOf]; omega)
      case pos =>
      have r0 : decide ((j : Int) < (k : Int)) = true := decide_eq_true (by omega)
      have r0n : decide (j < k) = true := decide_eq_true hjk
      have i3 : (j : Int) < (l.length : Int) := by have := HKL.out; omega
      have y1 := HG.out wr (HB3.out.trans (HBQ.out.mono HB3.out.size)) k HKL.out
      have z1 := HH.out wr HBQ.out k HKL.out
      rw [← HXE.out] at y1
      rw [← HYE.out] at z1
      have y2 := HG.out wr (HB3.out.trans (HBQ.out.mono HB3.out.size)) j (by have := HKL.out; omega)
      have z2 := HH.out wr HBQ.out j (by have := HKL.out; omega)
      have hm := HMO.out j hjk
      obtain ⟨x, hx⟩ : ∃ x, x = wq l j := ⟨_, rfl⟩
      obtain ⟨y, hy⟩ : ∃ y, y = shV t.toNat l j := ⟨_, rfl⟩
      rw [← hx] at y2 hm
      rw [← hy] at z2 hm
      have hyb : y < 18446744073709551616 := by rw [hy]; have := shV_lt (t := t.toNat) HK.out.2.2.1 (show j < l.length by have := HKL.out; omega); have := HT.out; omega
      have hXY := HX.out
      clear hx hy
      have HJK := Lib.hid hjk
      obtain ⟨m1, m2, m3⟩ := hm
      rcases Nat.lt_trichotomy x X with hc | hc | hc
      · have hle := m1 hc
        have c1 : decide ((x : Int) < (X : Int)) = true := decide_eq_true (by omega)
        have c1n : decide (x < X) = true := decide_eq_true hc
        have c2 : decide ((X : Int) < (x : Int)) = false := decide_eq_false (by omega)
        have c2n : decide (X < x) = false := decide_eq_false (by omega)
        have c3 : ((x : Int) == (X : Int)) = false := by rw [beq_eq_false_iff_ne]; omega
        have c4 : decide ((Y : Int) < (y : Int)) = false := decide_eq_false (by omega)
        have c4n : decide (Y < y) = false := decide_eq_false (by omega)
        clear m1 m2 m3 hc hle hyb hXY
        try clear HS
        try clear HM
        try clear HT
        try clear HK
        try clear HG
        try clear HRL
        try clear HRS
        try clear HRW
        try clear HNEAR
        try clear HSS
        try clear hSe
        try clear d1
        try clear d1n
        try clear d2
        try clear d2n
        try clear q0
        try clear HB1
        try clear HB2
        try clear HI3
        try clear HB3
        try clear HSL
        try clear HH
        try clear HL
        try clear d3
        try clear d3n
        try clear t0
        try clear t0n
        try clear HX
        try clear HNR
        try clear HMO
        try clear HXE
        try clear HYE
        try clear HBC
        try clear HIA
        try clear HPB
        try clear HMB
        try clear HDB
        try clear HN4
        try clear HWC
        try clear HB4
        try clear HA5
        try clear HB5
        try clear HN6
        try clear HB6
        try clear HLT
        try clear HD7
        try clear HA7
        try clear HB7
        try clear HA8
        try clear HB8
        try clear HB9
        try clear HB
        try clear hj
        try clear uk
        go_wp2
        refine wp_region_quiet_lit (by kernel_rfl) (by kernel_rfl) ?_
        simp only [List.append_eq, List.cons_append, List.nil_append]
        repeat (go_big_quiet_step (fail))
        refine wpQuiet_nil ?_
        rintro wz ⟨nq, rfl⟩
        go_wp2
        go_roundw
        case rel => exact ⟨j + 1, by omega, by first | rfl | go_num, HQT.out.trans ⟨_, rfl⟩⟩
        case measure => first | (simp [intOf]; done) | (simp [intOf]; omega)
      · obtain ⟨h1, h2⟩ := m3 hc
        obtain ⟨d, hd⟩ : ∃ d, d = y - Y := ⟨_, rfl⟩
        have c1 : decide ((x : Int) < (X : Int)) = false := decide_eq_false (by omega)
        have c1n : decide (x < X) = false := decide_eq_false (by omega)
        have c2 : decide ((X : Int) < (x : Int)) = false := decide_eq_false (by omega)
        have c2n : decide (X < x) = false := decide_eq_false (by omega)
        have c3 : ((x : Int) == (X : Int)) = true := by rw [beq_iff_eq]; omega
        have c5 : IntKind.u64.wrap ((y : Int) - (Y : Int)) = (d : Int) := by rw [IntKind.wrap_u64]; omega
        have c6 : decide ((1 : Int) < (d : Int)) = false := decide_eq_false (by omega)
        have c6n : decide (1 < d) = false := decide_eq_false (by omega)
        clear m1 m2 m3 hc h1 h2 hd hyb hXY
        try clear HS
        try clear HM
        try clear HT
        try clear HK
        try clear HG
        try clear HRL
        try clear HRS
        try clear HRW
        try clear HNEAR
        try clear HSS
        try clear hSe
        try clear d1
        try clear d1n
        try clear d2
        try clear d2n
        try clear q0
        try clear HB1
        try clear HB2
        try clear HI3
        try clear HB3
        try clear HSL
        try clear HH
        try clear HL
        try clear d3
        try clear d3n
        try clear t0
        try clear t0n
        try clear HX
        try clear HNR
        try clear HMO
        try clear HXE
        try clear HYE
        try clear HBC
        try clear HIA
        try clear HPB
        try clear HMB
        try clear HDB
        try clear HN4
        try clear HWC
        try clear HB4
        try clear HA5
        try clear HB5
        try clear HN6
        try clear HB6
        try clear HLT
        try clear HD7
        try clear HA7
        try clear HB7
        try clear HA8
        try clear HB8
        try clear HB9
        try clear HB
        try clear hj
        try clear uk
        go_wp2
        refine wp_region_quiet_lit (by kernel_rfl) (by kernel_rfl) ?_
        simp only [List.append_eq, List.cons_append, List.nil_append]
        repeat (go_big_quiet_step (fail))
        refine wpQuiet_nil ?_
        rintro wz ⟨nq, rfl⟩
        go_wp2
        go_roundw
        case rel => exact ⟨j + 1, by omega, by first | rfl | go_num, HQT.out.trans ⟨_, rfl⟩⟩
        case measure => first | (simp [intOf]; done) | (simp [intOf]; omega)
      · have hle := m2 hc
        have c1 : decide ((x : Int) < (X : Int)) = false := decide_eq_false (by omega)
        have c1n : decide (x < X) = false := decide_eq_false (by omega)
        have c2 : decide ((X : Int) < (x : Int)) = true := decide_eq_true (by omega)
        have c2n : decide (X < x) = true := decide_eq_true hc
        have c3 : ((x : Int) == (X : Int)) = false := by rw [beq_eq_false_iff_ne]; omega
        have c4 : decide ((y : Int) < (Y : Int)) = false := decide_eq_false (by omega)
        have c4n : decide (y < Y) = false := decide_eq_false (by omega)
        clear m1 m2 m3 hc hle hyb hXY
        try clear HS
        try clear HM
        try clear HT
        try clear HK
        try clear HG
        try clear HRL
        try clear HRS
        try clear HRW
        try clear HNEAR
        try clear HSS
        try clear hSe
        try clear d1
        try clear d1n
        try clear d2
        try clear d2n
        try clear q0
        try clear HB1
        try clear HB2
        try clear HI3
        try clear HB3
        try clear HSL
        try clear HH
        try clear HL
        try clear d3
        try clear d3n
        try clear t0
        try clear t0n
        try clear HX
        try clear HNR
        try clear HMO
        try clear HXE
        try clear HYE
        try clear HBC
        try clear HIA
        try clear HPB
        try clear HMB
        try clear HDB
        try clear HN4
        try clear HWC
        try clear HB4
        try clear HA5
        try clear HB5
        try clear HN6
        try clear HB6
        try clear HLT
        try clear HD7
        try clear HA7
        try clear HB7
        try clear HA8
        try clear HB8
        try clear HB9
        try clear HB
        try clear hj
        try clear uk
        go_wp2
        refine wp_region_quiet_lit (by kernel_rfl) (by kernel_rfl) ?_
        simp only [List.append_eq, List.cons_append, List.nil_append]
        repeat (go_big_quiet_step (fail))
        refine wpQuiet_nil ?_
        rintro wz ⟨nq, rfl⟩
        go_wp2
        go_roundw
        case rel => exact ⟨j + 1, by omega, by first | rfl | go_num, HQT.out.trans ⟨_, rfl⟩⟩
        case measure => first | (simp [intOf]; done) | (simp [intOf]; omega)
theorem walk (t : BitVec 64) (a : Option Addr) (c : Nat) (l : List (BitVec 64)) (w : World) (hs : Sl w a (vQ l)) (hn : l.length ≤ c) (hm : c ≤ 17592186043904) (hz : a = none → l.length = 0 ∧ c = 0) :
    Calls Try.prog 7 #[.int .u64 (U64 t), .slice a l.length c] w fun e w' => e = .returned (.bool true) ∧ Below w.heap.size w w' := by
  by_cases hok : okS l
  · exact walk_yes t a c l w hs (by omega) hz hok
  · exact walk_no t a c l w hs (by omega) hz hok
theorem own : ownKnob Try.prog.godebug = none := by kernel_rfl
theorem laidOut : laidOutB Try.prog = true := by kernel_rfl
set_option maxRecDepth 100000 in
theorem lifted (os : Os) (started : os.Started) (H : Type) (enc : TypeId × Value → H) :
    ReturnsInHanded {} Try.checked os 7 .any (Rows.countFairSpec.pre6 enc Try.prog Try.f7 Rows.countFairRow.domain false) (Rows.countFairSpec.post enc Try.prog Try.f7 false true false false) := by
  refine returnsInHanded_of_change_sized (C := Try.checked) own started (by kernel_rfl) Try.func7
    (ChangeSpec.witness6 (enc := enc) (C := Try.checked) false ⟨#[], #[.int .u64 0, .slice none 0 0], []⟩ 8 (by kernel_rfl) (by kernel_rfl) (by kernel_rfl) (by kernel_rfl)) ?_
  intro W base args ds gs before hval0 hW hcnd hsz0 _
  have hsz : (DataW.weightsEach Try.prog (Try.f7.params.toList ++ Rows.countFairSpec.plain.varTypes Try.prog) (ds ++ gs)).all (· ≤ reachBytes) = true := hsz0
  clear hsz0
  have hval : ∀ (j : Nat) t v, Try.f7.params[j]? = some t → args[j]? = some v → Value.okWide Try.prog W .any base t v := hval0
  have hW' := hW
  obtain ⟨p, q, hA0, hV, rfl, hfz, hnd⟩ := hW
  have hA : DataW.TrodAll enc Try.prog W 0 (fun _ => true) true Try.f7.params.toList args.toList ds p := hA0
  rw [Try.params7] at hA hval hsz
  obtain ⟨v0, vs0, d0, ds0, p0, q0, hargs, rfl, rfl, h0, r0⟩ := trodAll_cons hA
  obtain ⟨v1, vs1, d1, ds1, p1, q1, rfl, rfl, rfl, h1, r1⟩ := trodAll_cons r0
  obtain ⟨rfl, rfl, rfl⟩ := trodAll_nil r1
  obtain rfl : args = #[v0, v1] := by cases args; simp_all
  obtain ⟨rfl, rfl⟩ := trodVars_none hV
  obtain ⟨a0, rfl, rfl, rfl, w0⟩ := open_int Try.underlying24 (hval 0 24 v0 rfl rfl) h0
  obtain ⟨x0, rfl⟩ := u64_of_wf w0
  obtain ⟨a1, len1, cap1, rfl⟩ := okWide_slice Try.underlying22 (hval 1 22 v1 rfl rfl)
  have k1 := h1
  have lt1 : ∀ x ∈ p1, x.block < W.heap.size := by obtain ⟨m, hm⟩ := k1; exact DataW.trod_lt m _ _ _ hm
  obtain ⟨l1, rfl, s1, n1, m1, z1⟩ := open_u64s h1 hsz (j := 1) rfl rfl
  clear hA0 hval0
  refine (walk x0 a1 cap1 l1 W s1 n1 m1 z1).mono fun e W' ⟨he, bel⟩ => ?_
  subst he
  exact ⟨_, rfl, _, _, _, [], _, [], hW', trodAll_mk1 (shut_bool Try.underlying4 _), (trodAll_cons_mk (shut_int Try.underlying24 w0) (trodAll_cons_mk (Below.trod laidOut (by kernel_rfl) (of_decide_eq_true (by kernel_rfl)) k1 bel lt1) trodAll_mk0)), rfl, bel.frame _, fun h => by cases h⟩
theorem over : Rows.countFairRow.holds Try.pinned (OpenSpec.ofChange Rows.countFairSpec) :=
  OpenClaim.holds_of_wide 7 Try.f7 rfl rfl rfl rfl rfl rfl rfl ⟨rfl, rfl, rfl, rfl, rfl⟩ rfl rfl rfl rfl rfl (by kernel_rfl) Try.func7 (by kernel_rfl)
    (of_decide_eq_true (by kernel_rfl)) (by unfold Func.isWrapper; first | (rw [if_pos (by decide +kernel)]; kernel_rfl) | (rw [if_neg (by decide +kernel)]; exact ⟨rfl, rfl⟩))
    (fun os started H enc _ => lifted os started H enc)
theorem proved : Rows.CountFairSaid := over
#print axioms proved
end Go.Proofs.Ytdkfaicmdbhonaa.lawCountFair
