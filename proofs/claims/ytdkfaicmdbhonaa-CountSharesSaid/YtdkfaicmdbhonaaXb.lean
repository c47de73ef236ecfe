/-
  Layer 1: the document's Shares, walked.
-/
import Derived.Test.YtdkfaicmdbhonaaXd
import Derived.Deep.DeepCutAuto
import Derived.Deep.CutBlock
import Derived.Deep.RegionHeld3
import Derived.Deep.QuietTactic
import Derived.BigQuiet
namespace Go.Proofs.Ytdkfaicmdbhonaa
open Go.RowKit Go.K Go.ChangeShapes Go.WideShapes Go.ChangeAt Go.Words
set_option linter.unusedVariables false
set_option linter.unusedSimpArgs false
theorem big_n (x : Nat) (hx : x < 18446744073709551616) (w : World) : Calls Try.prog 26 #[.int .u64 (x : Int)] w fun e w' => e = .returned (.pointer (some ⟨w.heap.size, 0, none⟩)) ∧ IntAt w' w.heap.size (x : Int) ∧ Below w.heap.size w w' := by
  have h := big_any (BitVec.ofNat 64 x) w
  have e : (BitVec.ofNat 64 x).toNat = x := by rw [BitVec.toNat_ofNat, Nat.mod_eq_of_lt (by omega)]
  rw [show U64 (BitVec.ofNat 64 x) = (x : Int) by unfold U64; rw [e], e] at h
  exact h
theorem cells_of {W : World} {a : Option Addr} {l : List (BitVec 64)} (h : Sl W a (vQ l)) (hn : 0 < l.length) : ∃ b o, a = some ⟨b, o, none⟩ ∧ ∀ V, Below W.heap.size W V → ∀ j, j < l.length → V.cell? ⟨b, o + j, none⟩ = some (.int .u64 ((wq l j : Nat) : Int)) := by
  obtain ⟨b, o, e, hc⟩ := h (vQ_ne hn)
  refine ⟨b, o, e, fun V hV j hj => ?_⟩
  have h1 := hc j (by rw [vQ_length]; exact hj)
  rw [vQ_get l j hj] at h1
  rw [wq_get l j hj]
  exact below_cell hV h1
theorem mul_lt' {a b : Nat} (ha : a < 18446744073709551616) (hb : b < 18446744073709551616) : a * b < 340282366920938463463374607431768211456 := by
  have : a * b ≤ 18446744073709551615 * 18446744073709551615 := Nat.mul_le_mul (by omega) (by omega)
  omega
theorem infoQ : (Try.prog.info? 24).map (fun i => (i.zero, i.size, i.bytes)) = some (some (.int .u64 0), 1, 8) := by kernel_rfl
theorem infoP : (Try.prog.info? 35).map (fun i => (i.zero, i.size, i.bytes)) = some (some (.pointer none), 1, 8) := by kernel_rfl
theorem infoB : (Try.prog.info? 4).map (fun i => (i.zero, i.size, i.bytes)) = some (some (.bool false), 1, 1) := by kernel_rfl
set_option maxRecDepth 100000 in
set_option maxHeartbeats 4000000 in
theorem rshares_yes (t : BitVec 64) (l : List (BitVec 64)) (a : Option Addr) (cap : Nat) (w : World) (hs : Sl w a (vQ l)) (hok : okS l) :
    Calls Try.prog 35 #[.int .u64 (U64 t), .slice a l.length cap] w fun r w' => ∃ a' c', r = .returned (.tuple #[.slice a' l.length c', .int .i64 0]) ∧ w'.ownsRow w.heap.size 24 1 (.slice a' l.length c') l.length (vQ (shL t.toNat l)) ∧ Below w.heap.size w w' := by
  have HS := Lib.hid hs
  have HT := Lib.hid t.isLt
  have HK := Lib.hid hok
  obtain ⟨ab, ao, hga, hcell⟩ := cells_of hs hok.1
  have HG := Lib.hid hcell
  have K37 := Lib.hid (all_any a cap l w (by have := hok.2.1; omega) hs)
  subst hga
  have d1 : ((l.length : Int) == 0) = false := by rw [beq_eq_false_iff_ne]; have := hok.1; omega
  have d2 : decide (1024 < (l.length : Int)) = false := decide_eq_false (by have := hok.2.1; omega)
  have d2n : decide (1024 < l.length) = false := decide_eq_false (by have := hok.2.1; omega)
  have HL := Lib.hid (show ((sumL l : Nat) : Int).natAbs < pw 900 from pw900_ge _ (by have := hok.2.2.2; omega))
  clear hs hok hcell
  go_enter Try.func35, Try.ntmps35
  go_wp2_with fail
  refine K37.out.mono ?_
  rintro e w1 ⟨rfl, hi1, hb1⟩
  obtain ⟨S, hS⟩ : ∃ S, S = sumL l := ⟨_, rfl⟩
  have hSe := Lib.hid hS
  have HSS := Lib.hid (show 0 < S ∧ S < 18446744073709551616 by rw [hS]; exact HK.out.2.2)
  rw [← hS] at hi1 HL
  clear hS
  have HI1 := Lib.hid hi1
  have HB1 := Lib.hid hb1
  clear hi1 hb1 K37
  obtain ⟨gS, hgS⟩ : ∃ gS, gS = w.heap.size := ⟨_, rfl⟩
  have HGS := Lib.hid hgS
  have K38 := sign_any w.heap.size _ w1 HI1.out
  rw [show sgn ((S : Nat) : Int) = 1 by have := HSS.out; unfold sgn; rw [if_neg (by omega), if_neg (by omega)]] at K38
  have K38 := Lib.hid K38
  have K39 := Lib.hid (bitlen_any w.heap.size _ w1 HI1.out HL.out)
  have hbl : bl (((S : Nat) : Int).natAbs) ≤ 64 := (bl_le _ 64).2 (by have := HSS.out; omega)
  obtain ⟨bv, hbv⟩ : ∃ bv, bv = bl (((S : Nat) : Int).natAbs) := ⟨_, rfl⟩
  rw [← hbv] at K39 hbl
  have d3 : decide (64 < (bv : Int)) = false := decide_eq_false (by omega)
  have d3n : decide (64 < bv) = false := decide_eq_false (by omega)
  clear hbl hbv hgS
  go_wp2_with fail
  refine K39.out.mono ?_
  rintro e w2 ⟨rfl, hq⟩
  have HB2 := Lib.hid (HB1.out.trans ((hq.below _).mono HB1.out.size))
  have HI2 := Lib.hid (HI1.out.kept (hq.below _))
  have K38 := sign_any w.heap.size _ w2 HI2.out
  rw [show sgn ((S : Nat) : Int) = 1 by have := HSS.out; unfold sgn; rw [if_neg (by omega), if_neg (by omega)]] at K38
  have K38 := Lib.hid K38
  clear hq
  go_wp2_with fail
  refine K38.out.mono ?_
  rintro e w3 ⟨rfl, rfl⟩
  go_wp2_with fail
  refine (big_any t _).mono ?_
  rintro e w4 ⟨rfl, hi4, hb4⟩
  have HLF := Lib.hid hi4
  have HS4 := Lib.hid (HI2.out.kept hb4)
  have HB4 := Lib.hid (HB2.out.trans (hb4.mono HB2.out.size))
  have HLT := Lib.hid (show w.heap.size < w2.heap.size from isInt_lt HI2.out.isInt)
  clear hi4 hb4 K38 K39
  obtain ⟨gl, hgl⟩ : ∃ gl, gl = w2.heap.size := ⟨_, rfl⟩
  obtain ⟨B, hB⟩ : ∃ B, B = w.heap.size := ⟨_, rfl⟩
  rw [← hgl] at HLF HLT ⊢
  have HR0 := Lib.hid (show RI w.heap.size t.toNat l w.heap.size gl (qV t.toNat l) (fun _ => false) (t.toNat - sumN (qV t.toNat l) 0) 0 0 0 0 (.slice none 0 0) (.slice none 0 0) (.slice none 0 0) (fun _ => 0) w4 from
    ⟨World.ownsRow_nil _ _ _ _, World.ownsRow_nil _ _ _ _, World.ownsRow_nil _ _ _ _, CellsT.nil _ _, CellsT.nil _ _, CellsT.nil _ _, (fun k hk => absurd hk (Nat.not_lt_zero k)), HLF.out, by rw [← hSe.out]; exact HS4.out, by have := HLT.out; omega, by have := HLT.out; omega⟩)
  clear hgl hB
  go_wp2
  go_loopw [7, 8, 9, 11, 12, 13] (fun x7 x8 x9 x11 x12 x13 V => ∃ (i : Nat) (a7 : Option Addr) (c7 : Nat) (a8 : Option Addr) (c8 : Nat) (a9 : Option Addr) (c9 : Nat) (G : Nat → Nat), i ≤ l.length ∧ x7 = .slice a7 i c7 ∧ x8 = .slice a8 i c8 ∧ x9 = .slice a9 i c9 ∧ x11 = .int .i64 i ∧ Below w.heap.size w V ∧ RI w.heap.size t.toNat l w.heap.size gl (qV t.toNat l) (fun _ => false) (t.toNat - sumN (qV t.toNat l) i) i i i i (.slice a7 i c7) (.slice a8 i c8) (.slice a9 i c9) G V) (fun _ _ _ x11 _ _ _ => l.length - (intOf x11).toNat)
  case atStart => exact ⟨0, none, 0, none, 0, none, 0, fun _ => 0, Nat.zero_le _, rfl, rfl, rfl, rfl, HB4.out, HR0.out⟩
  case round =>
    obtain ⟨i, a7, c7, a8, c8, a9, c9, G, hi, rfl, rfl, rfl, rfl, hb, hri⟩ := hrel
    have HB := Lib.hid hb
    have HRI := Lib.hid hri
    clear hb hri HR0 HB4 HLF HS4
    by_cases hlt : i < l.length
    case pos =>
      have t5 : decide ((i : Int) < (l.length : Int)) = true := decide_eq_true (by omega)
      have t5n : decide (i < l.length) = true := decide_eq_true hlt
      have i1 : (i : Int) < (l.length : Int) := by omega
      have y1 := HG.out wr HB.out i hlt
      have HX := Lib.hid (wq_lt l i)
      obtain ⟨X, hX⟩ : ∃ X, X = wq l i := ⟨_, rfl⟩
      have HXE := Lib.hid hX
      rw [← hX] at y1 HX
      have hsum := HRI.out.sum
      rw [← hSe.out] at hsum
      have HSUM := Lib.hid hsum
      have HY1 := Lib.hid y1
      have HKL := Lib.hid hlt
      have HLN := Lib.hid (show l.length ≤ 1024 from HK.out.2.1)
      clear hX hlt hsum y1
      go_upto_region 15 with fail
      refine qreg rfl (by kernel_rfl) (by kernel_rfl) (by simp) t X S w.heap.size ab ao i l.length cap rfl rfl rfl rfl HKL.out HY1.out HX.out HSUM.out HSS.out.1 HSS.out.2 ?_
      intro x wc gq gr ex12 ex13 hq hr hgq hgr hbc
      have hqv : t.toNat * X / S = qV t.toNat l i := by unfold qV; rw [HXE.out, hSe.out]
      have hrv : t.toNat * X % S = rV t.toNat l i := by unfold rV; rw [HXE.out, hSe.out]
      rw [hqv] at hq
      rw [hrv] at hr
      obtain ⟨q, hqe⟩ : ∃ q, q = qV t.toNat l i := ⟨_, rfl⟩
      rw [← hqe] at hq
      have HQE := Lib.hid hqe
      have HQS := Lib.hid (show sumN (qV t.toNat l) i + q ≤ t.toNat by
        have h1 := sumN_mono (qV t.toNat l) (show i + 1 ≤ l.length from HKL.out)
        have h2 := q_le (t := t.toNat) (l := l) HK.out.2.2.1
        simp only [sumN] at h1
        rw [← hqe] at h1
        omega)
      have HQB := Lib.hid (show q < 18446744073709551616 by have := HQS.out; have := HT.out; omega)
      have HGE := Lib.hid (show gl < wr.heap.size from isInt_lt HRI.out.left.isInt)
      have HRC := HRI.out.kept hbc
      have HRI5 := Lib.hid (HRC.addG hr (Nat.le_trans HB.out.size hgr) (by have := HGE.out; omega) rfl)
      have HQ5 := Lib.hid hq
      have HNE := Lib.hid (show gl ≠ gq by have := HGE.out; omega)
      have HB5 := Lib.hid (HB.out.trans (hbc.mono HB.out.size))
      have K49 := uint64_any gq (q : Int) wc hq (by rw [Int.natAbs_natCast]; exact pw900_ge _ (by have := HQB.out; omega))
      rw [Int.natAbs_natCast, U64_ofNat _ HQB.out] at K49
      have K49 := Lib.hid K49
      clear hqv hrv hqe hq hr hgq hgr hbc HRC HRI HSUM HY1 HB
      simp only [putsF, SL, List.foldl_cons, List.foldl_nil, Act.put, List.setIfInBounds_toArray, List.set_cons_zero, List.set_cons_succ, ex12, ex13]
      clear ex12 ex13
      go_wp2_with fail
      refine K49.out.mono ?_
      rintro e w5 ⟨rfl, hqt⟩
      have HRI6 := Lib.hid (HRI5.out.kept (hqt.below _))
      have HQ6 := Lib.hid (HQ5.out.kept (hqt.below _))
      have HB6 := Lib.hid (HB5.out.trans ((hqt.below _).mono HB5.out.size))
      have HA6 := Lib.hid (show Below w5.heap.size w5 (w5.alloc (.cells #[.int .u64 (q : Int)] 24)) from (Below.refl _ _).alloc (Nat.le_refl _) _)
      have h63 : i + 1 ≤ maxLen := by unfold maxLen; have := HKL.out; have := HLN.out; omega
      have hby8 : (i + 1) * 8 ≤ 140737488355328 := by have := HKL.out; have := HLN.out; omega
      have hby1 : (i + 1) * 1 ≤ 140737488355328 := by have := HKL.out; have := HLN.out; omega
      clear hqt K49 HRI5 HQ5 HB5
      go_wp2_with (at_builtin; refine wpList_append_t NW rfl _ _ 22 rfl w.heap.size 24 (.int .u64 0) 1 8 Try.underlying22 infoQ (by rfl) (by decide) (.slice a7 i c7) i (rowQ (qV t.toNat l) i) (by rfl) (HRI6.out.kept HA6.out).o7 (HRI6.out.kept HA6.out).t7 ⟨w5.heap.size, 0, none⟩ 1 1 [.int .u64 (q : Int)] (by rfl) (by decide) (by rfl) (sl_new w5 [.int .u64 (q : Int)] 24 (0, 0)) (one_int _ _) h63 hby8 (HB6.out.trans (HA6.out.mono HB6.out.size)).size (fun u hu => by rw [List.mem_singleton] at hu; subst hu; intro n e; cases e) (fun u hu => by rw [show (Value.int IntKind.u64 0).cells.toList = [.int .u64 0] from rfl, List.mem_singleton] at hu; subst hu; intro n e; cases e) ?a7)
      intro v7 w7 ho7 hg7 ht7
      obtain ⟨b7, d7, hv7, _, _, _⟩ := Go.K.owns_slice ho7
      subst hv7
      have HQ7 := Lib.hid ((HQ6.out.kept HA6.out).awayV (HRI6.out.kept HA6.out).o7 (by decide) (HRI6.out.kept HA6.out).t7 hg7)
      have HRI7 := Lib.hid ((HRI6.out.kept HA6.out).add7 (by rw [← HQE.out]; exact ho7) hg7 ht7)
      have HB7 := Lib.hid (show Below w.heap.size w w7 from (HB6.out.trans (HA6.out.mono HB6.out.size)).grown hg7 (HB6.out.trans (HA6.out.mono HB6.out.size)).size (fun k hk => by
        rcases (HRI6.out.kept HA6.out).o7.2 with ⟨h1, _⟩ | ⟨g', cap', cur, h1, h2, _⟩
        · rw [h1] at hk; cases hk
        · rw [h1] at hk; cases hk; exact h2))
      have HA7 := Lib.hid (show Below w7.heap.size w7 (w7.alloc (.cells #[.pointer (some ⟨gr, 0, none⟩)] 35)) from (Below.refl _ _).alloc (Nat.le_refl _) _)
      have HGR := Lib.hid (show (fun k => if k = i then gr else G k) i = gr from if_pos rfl)
      clear ho7 hg7 ht7 HRI6 HQ6 HB6 HA6
      go_wp2_with (at_builtin; refine wpList_append_t NW rfl _ _ 87 rfl w.heap.size 35 (.pointer none) 1 8 Try.underlying87 infoP (by rfl) (by decide) (.slice a8 i c8) i (ptrs (fun k => if k = i then gr else G k) i) (by rfl) (HRI7.out.kept HA7.out).o8 (HRI7.out.kept HA7.out).t8 ⟨w7.heap.size, 0, none⟩ 1 1 [.pointer (some ⟨gr, 0, none⟩)] (by rfl) (by decide) (by rfl) (sl_new w7 [.pointer (some ⟨gr, 0, none⟩)] 35 (0, 0)) (fun u hu => by rw [List.mem_singleton] at hu; subst hu; rfl) h63 hby8 (HB7.out.trans (HA7.out.mono HB7.out.size)).size (fun u hu => by rw [List.mem_singleton] at hu; subst hu; intro n e; cases e) (fun u hu => by rw [show (Value.pointer none).cells.toList = [.pointer none] from rfl, List.mem_singleton] at hu; subst hu; intro n e; cases e) ?a8)
      intro v8 w8 ho8 hg8 ht8
      obtain ⟨b8, d8, hv8, _, _, _⟩ := Go.K.owns_slice ho8
      subst hv8
      have HQ8 := Lib.hid ((HQ7.out.kept HA7.out).awayV (HRI7.out.kept HA7.out).o8 (by decide) (HRI7.out.kept HA7.out).t8 hg8)
      have HRI8 := Lib.hid ((HRI7.out.kept HA7.out).add8 (by simp only [if_true]; exact ho8) hg8 ht8)
      have HB8 := Lib.hid (show Below w.heap.size w w8 from (HB7.out.trans (HA7.out.mono HB7.out.size)).grown hg8 (HB7.out.trans (HA7.out.mono HB7.out.size)).size (fun k hk => by
        rcases (HRI7.out.kept HA7.out).o8.2 with ⟨h1, _⟩ | ⟨g', cap', cur, h1, h2, _⟩
        · rw [h1] at hk; cases hk
        · rw [h1] at hk; cases hk; exact h2))
      have HA8 := Lib.hid (show Below w8.heap.size w8 (w8.alloc (.cells #[.bool false] 4)) from (Below.refl _ _).alloc (Nat.le_refl _) _)
      clear ho8 hg8 ht8 HRI7 HQ7 HB7 HA7 HGR
      go_wp2_with (at_builtin; refine wpList_append_t NW rfl _ _ 88 rfl w.heap.size 4 (.bool false) 1 1 Try.underlying88 infoB (by rfl) (by decide) (.slice a9 i c9) i (bools (fun _ => false) i) (by rfl) (HRI8.out.kept HA8.out).o9 (HRI8.out.kept HA8.out).t9 ⟨w8.heap.size, 0, none⟩ 1 1 [.bool false] (by rfl) (by decide) (by rfl) (sl_new w8 [.bool false] 4 (0, 0)) (fun u hu => by rw [List.mem_singleton] at hu; subst hu; rfl) h63 hby1 (HB8.out.trans (HA8.out.mono HB8.out.size)).size (fun u hu => by rw [List.mem_singleton] at hu; subst hu; intro n e; cases e) (fun u hu => by rw [show (Value.bool false).cells.toList = [.bool false] from rfl, List.mem_singleton] at hu; subst hu; intro n e; cases e) ?a9)
      intro v9 w9 ho9 hg9 ht9
      obtain ⟨b9, d9, hv9, _, _, _⟩ := Go.K.owns_slice ho9
      subst hv9
      have HQ9 := Lib.hid ((HQ8.out.kept HA8.out).awayV (HRI8.out.kept HA8.out).o9 (by decide) (HRI8.out.kept HA8.out).t9 hg9)
      have HRI9 := Lib.hid ((HRI8.out.kept HA8.out).add9 ho9 hg9 ht9)
      have HB9 := Lib.hid (show Below w.heap.size w w9 from (HB8.out.trans (HA8.out.mono HB8.out.size)).grown hg9 (HB8.out.trans (HA8.out.mono HB8.out.size)).size (fun k hk => by
        rcases (HRI8.out.kept HA8.out).o9.2 with ⟨h1, _⟩ | ⟨g', cap', cur, h1, h2, _⟩
        · rw [h1] at hk; cases hk
        · rw [h1] at hk; cases hk; exact h2))
      have hl9 := HRI9.out.left
      obtain ⟨L, hL⟩ : ∃ L, L = t.toNat - sumN (qV t.toNat l) i := ⟨_, rfl⟩
      rw [← hL] at hl9
      have HLE := Lib.hid hL
      have HLB := Lib.hid (show L < 18446744073709551616 by rw [hL]; have := HT.out; omega)
      have K41 := Lib.hid (sub_any gl gl gq _ _ w9 hl9.isInt hl9 HQ9.out (by rw [Int.natAbs_natCast]; exact pw900_ge _ (by have := HLB.out; omega)) (by rw [Int.natAbs_natCast]; exact pw900_ge _ (by have := HQB.out; omega)) HNE.out)
      clear ho9 hg9 ht9 HRI8 HQ8 HB8 HA8 h63 hby8 hby1 hl9 hL
      go_wp2_with fail
      refine K41.out.mono ?_
      rintro e w10 ⟨rfl, hg10, hi10⟩
      have HN := Lib.hid (show (L : Int) - (q : Int) = ((t.toNat - sumN (qV t.toNat l) (i + 1) : Nat) : Int) by
        simp only [sumN]
        rw [← HQE.out, HLE.out]
        have := HQS.out
        omega)
      rw [HN.out] at hi10
      have HRI10 := Lib.hid (HRI9.out.setL hg10 hi10)
      have HB10 := Lib.hid (show Below w.heap.size w w10 from HB9.out.grown hg10 HB9.out.size (fun k hk => by cases hk; exact HRI9.out.wl))
      have w2 : IntKind.i64.wrap ((i : Int) + 1) = ((i + 1 : Nat) : Int) := by rw [IntKind.wrap_i64]; have := HKL.out; have := HLN.out; omega
      clear hg10 hi10 K41 HRI9 HB9
      go_wp2
      go_roundw
      case rel => exact ⟨i + 1, b7, d7, b8, d8, b9, d9, fun k => if k = i then gr else G k, HKL.out, rfl, rfl, rfl, by go_num, HB10.out, HRI10.out⟩
      case measure => have := HKL.out; simp [intOf]; omega
    case neg =>
      have t5 : decide ((i : Int) < (l.length : Int)) = false := decide_eq_false (by omega)
      have t5n : decide (i < l.length) = false := decide_eq_false hlt
      obtain rfl : i = l.length := by omega
      obtain ⟨g7, k7, _, hv7, hg7, _⟩ := owns_cases HRI.out.o7 HK.out.1
      obtain ⟨g8, k8, _, hv8, _⟩ := owns_cases HRI.out.o8 HK.out.1
      obtain ⟨g9, k9, _, hv9, hg9, _⟩ := owns_cases HRI.out.o9 HK.out.1
      injection hv7 with e7 _ e7c
      injection hv8 with e8 _ e8c
      injection hv9 with e9 _ e9c
      subst e7 e8 e9 e7c e8c e9c
      obtain ⟨lv, hlv⟩ : ∃ lv, lv = leftV t.toNat l := ⟨_, rfl⟩
      have hlv2 : t.toNat - sumN (qV t.toNat l) l.length = lv := hlv.symm
      have HLV := Lib.hid hlv
      have HLL := Lib.hid (show lv < l.length by rw [hlv]; exact left_lt HK.out.2.2.1 HK.out.1)
      have HLN := Lib.hid (show l.length ≤ 1024 from HK.out.2.1)
      have hri0 := HRI.out
      rw [hlv2] at hri0
      have HJ0 := Lib.hid (show RI w.heap.size t.toNat l w.heap.size gl (shJ t.toNat l 0) (fun k => decide (cntM (rV t.toNat l) l.length k < 0)) (lv - 0) l.length l.length l.length l.length (.slice (some ⟨g7, 0, none⟩) l.length c7) (.slice (some ⟨g8, 0, none⟩) l.length c8) (.slice (some ⟨g9, 0, none⟩) l.length c9) G wr from
        hri0.c_congr (fun k _ => by rw [shJ_zero]) (fun k _ => by simp))
      have HGE := Lib.hid (And.intro hg7 hg9)
      clear hlt hlv hlv2 hri0 hg7 hg9 HRI hi
      have HN0 := HLN
      go_wp2
      go_loopw [14, 15] (fun x14 x15 V => ∃ j : Nat, j ≤ lv ∧ hasN (rV t.toNat l) l.length j = j ∧ Below w.heap.size w V ∧ RI w.heap.size t.toNat l w.heap.size gl (shJ t.toNat l j) (fun k => decide (cntM (rV t.toNat l) l.length k < j)) (lv - j) l.length l.length l.length l.length (.slice (some ⟨g7, 0, none⟩) l.length c7) (.slice (some ⟨g8, 0, none⟩) l.length c8) (.slice (some ⟨g9, 0, none⟩) l.length c9) G V) (fun _ _ V => noneYet g9 l.length V)
      case atStart => exact ⟨0, Nat.zero_le _, hasN_zero _ _, HB.out, HJ0.out⟩
      case round =>
        obtain ⟨j, hj, hhas, hb, hrj⟩ := hrel
        have HBJ := Lib.hid hb
        have HRJ := Lib.hid hrj
        have HHAS := Lib.hid hhas
        clear hb hrj hhas HJ0 HB
        have K38 := sign_any gl _ wr HRJ.out.left
        by_cases hlt : j < lv
        case neg =>
          rw [show sgn ((lv - j : Nat) : Int) = 0 by rw [show lv - j = 0 by omega]; rfl] at K38
          have K38 := Lib.hid K38
          obtain rfl : j = lv := by omega
          have HF := Lib.hid (show wr.ownsRow w.heap.size 24 1 (.slice (some ⟨g7, 0, none⟩) l.length c7) l.length (vQ (shL t.toNat l)) by
            rw [← rowQ_vQ HK.out.2.2.1 HT.out]
            have h := HRJ.out.o7
            rw [HLV.out] at h
            exact h)
          clear hlt hj
          go_wp2_with fail
          refine K38.out.mono ?_
          rintro e w5 ⟨rfl, rfl⟩
          go_wp2
          go_ret2
          exact ⟨_, _, rfl, HF.out, HBJ.out⟩
        case pos =>
        rw [show sgn ((lv - j : Nat) : Int) = 1 by unfold sgn; rw [if_neg (by omega), if_neg (by omega)]] at K38
        have K38 := Lib.hid K38
        have HJL := Lib.hid hlt
        clear hlt hj
        go_wp2_with fail
        refine K38.out.mono ?_
        rintro e w5 ⟨rfl, rfl⟩
        clear K38
        go_wp2
        go_loopw [14, 15] (fun x14 x15 V => ∃ (i : Nat) (v : Int), i ≤ l.length ∧ x14 = .int .i64 v ∧ x15 = .int .i64 i ∧ Bst (rV t.toNat l) l.length j i v ∧ Qt wr V) (fun _ x15 _ => l.length - (intOf x15).toNat)
        case atStart => exact ⟨0, -1, Nat.zero_le _, rfl, rfl, bst_zero _ _ _, Qt.refl _⟩
        case round =>
          obtain ⟨i, v, hi, rfl, rfl, hbst, hqt⟩ := hrel
          have HRQ := Lib.hid (HRJ.out.kept (hqt.below _))
          by_cases hlt : i < l.length
          case pos =>
            have t6 : decide ((i : Int) < (l.length : Int)) = true := decide_eq_true (by omega)
            have t6n : decide (i < l.length) = true := decide_eq_true hlt
            have i1 : (i : Int) < (l.length : Int) := by omega
            have w2 : IntKind.i64.wrap ((i : Int) + 1) = ((i + 1 : Nat) : Int) := by rw [IntKind.wrap_i64]; have := HLN.out; omega
            have z9 := own_cell HRQ.out.o9 (bools_get (c := fun k => decide (cntM (rV t.toNat l) l.length k < j)) hlt)
            have HI := Lib.hid hlt
            by_cases hh : cntM (rV t.toNat l) l.length i < j
            case pos =>
              have HBS := Lib.hid (bst_has hbst hh)
              rw [decide_eq_true hh] at z9
              clear hbst hh hlt hi
              go_wp2
              refine wp_region_inv 21 (fun W => Qt wr W) (by kernel_rfl) (by kernel_rfl) (fun q => ⟨q, rfl⟩) ?_
              simp only [List.take_succ_cons, List.take_zero]
              iterate 21
                first
                  | (apply wpInv_cons
                     · rfl
                     · intro Wx hw
                       have k9 := (hw.cell ⟨g9, i, none⟩).trans z9
                       skip
                       first
                         | (go_simp; exact ⟨hw, rfl⟩)
                         | (go_simp; show Calls _ _ _ _ _; with_reducible exact HK33.out _ hw))
                  | (apply wpInv_skip
                     · rfl)
                simp only [Act.put, List.setIfInBounds_toArray, List.set_cons_zero, List.set_cons_succ]
              refine wpInv_nil fun V3 hV => ?_
              have HV := Lib.hid (hqt.trans hV)
              clear hV
              simp only [List.drop_succ_cons, List.drop_zero]
              go_wp2
              go_roundw
              case rel => exact ⟨i + 1, v, HI.out, rfl, by go_num, HBS.out, HV.out⟩
              case measure => have := HI.out; simp [intOf]; omega
            case neg =>
            rw [decide_eq_false hh] at z9
            rcases hbst with hb0 | ⟨b, hb1, hb2, hb3, hb4⟩
            · have hb0' : Bst (rV t.toNat l) l.length j i v := .inl hb0
              obtain rfl : v = -1 := hb0.1
              have HBS := Lib.hid (bst_first hb0' (by decide) (Nat.le_of_not_lt hh))
              have v0 : decide ((-1 : Int) < 0) = true := by decide
              clear hb0 hb0' hh hlt hi
              go_wp2
              refine wp_region_inv 21 (fun W => Qt wr W) (by kernel_rfl) (by kernel_rfl) (fun q => ⟨q, rfl⟩) ?_
              simp only [List.take_succ_cons, List.take_zero]
              iterate 21
                first
                  | (apply wpInv_cons
                     · rfl
                     · intro Wx hw
                       have k9 := (hw.cell ⟨g9, i, none⟩).trans z9
                       skip
                       first
                         | (go_simp; exact ⟨hw, rfl⟩)
                         | (go_simp; show Calls _ _ _ _ _; with_reducible exact HK33.out _ hw))
                  | (apply wpInv_skip
                     · rfl)
                simp only [Act.put, List.setIfInBounds_toArray, List.set_cons_zero, List.set_cons_succ]
              refine wpInv_nil fun V3 hV => ?_
              have HV := Lib.hid (hqt.trans hV)
              clear hV
              simp only [List.drop_succ_cons, List.drop_zero]
              go_wp2
              go_roundw
              case rel => exact ⟨i + 1, i, HI.out, rfl, by go_num, HBS.out, HV.out⟩
              case measure => have := HI.out; simp [intOf]; omega
            · have hbb : Bst (rV t.toNat l) l.length j i (b : Int) := .inr ⟨b, rfl, hb2, hb3, hb4⟩
              subst hb1
              have v0 : decide ((b : Int) < 0) = false := decide_eq_false (by omega)
              have i2 : (b : Int) < (l.length : Int) := by omega
              have z8i := own_cell HRQ.out.o8 (ptrs_get (G := G) hlt)
              have z8b := own_cell HRQ.out.o8 (ptrs_get (G := G) (show b < l.length by omega))
              have hrb : ∀ k, ((rV t.toNat l k : Nat) : Int).natAbs < pw 900 := fun k => by
                rw [Int.natAbs_natCast]
                exact pw900_ge _ (by have h1 : rV t.toNat l k < sumL l := Nat.mod_lt _ HK.out.2.2.1; have := HK.out.2.2.2; omega)
              by_cases hc : rV t.toNat l b < rV t.toNat l i
              · have HK33 := Lib.hid (fun W (hw : Qt wr W) => show Calls Try.prog 33 #[.pointer (some ⟨G i, 0, none⟩), .pointer (some ⟨G b, 0, none⟩)] W fun e w' => e = .returned (.int .i64 1) ∧ Qt wr w' from by
                  have h := cmp_any (G i) (G b) _ _ W ((HRQ.out.gr i hlt).1.kept (hw.below _)) ((HRQ.out.gr b (by omega)).1.kept (hw.below _)) (hrb i) (hrb b)
                  rw [show cmpI ((rV t.toNat l i : Nat) : Int) ((rV t.toNat l b : Nat) : Int) = 1 by unfold cmpI; rw [if_neg (by omega), if_pos (by omega)]] at h
                  exact h.mono fun e w' ⟨h1, h2⟩ => ⟨h1, hw.trans h2⟩)
                have HBS := Lib.hid (bst_more hbb (Nat.le_of_not_lt hh) hc)
                clear hbb hb2 hb3 hb4 hh hlt hi hc hrb
                go_wp2
                refine wp_region_inv 21 (fun W => Qt wr W) (by kernel_rfl) (by kernel_rfl) (fun q => ⟨q, rfl⟩) ?_
                simp only [List.take_succ_cons, List.take_zero]
                iterate 21
                  first
                    | (apply wpInv_cons
                       · rfl
                       · intro Wx hw
                         have k9 := (hw.cell ⟨g9, i, none⟩).trans z9
                         have k8 := (hw.cell ⟨g8, i, none⟩).trans z8i
                         have k7 := (hw.cell ⟨g8, b, none⟩).trans z8b
                         first
                           | (go_simp; exact ⟨hw, rfl⟩)
                           | (go_simp; show Calls _ _ _ _ _; with_reducible exact HK33.out _ hw))
                    | (apply wpInv_skip
                       · rfl)
                  simp only [Act.put, List.setIfInBounds_toArray, List.set_cons_zero, List.set_cons_succ]
                refine wpInv_nil fun V3 hV => ?_
                have HV := Lib.hid (hqt.trans hV)
                clear hV
                simp only [List.drop_succ_cons, List.drop_zero]
                go_wp2
                go_roundw
                case rel => exact ⟨i + 1, i, HI.out, rfl, by go_num, HBS.out, HV.out⟩
                case measure => have := HI.out; simp [intOf]; omega
              · obtain ⟨s, hs1, hs2⟩ : ∃ s : Int, s = cmpI ((rV t.toNat l i : Nat) : Int) ((rV t.toNat l b : Nat) : Int) ∧ s ≤ 0 := ⟨_, rfl, by
                  unfold cmpI
                  by_cases h : ((rV t.toNat l i : Nat) : Int) < ((rV t.toNat l b : Nat) : Int)
                  · rw [if_pos h]; decide
                  · rw [if_neg h, if_neg (by omega)]; decide⟩
                have HK33 := Lib.hid (fun W (hw : Qt wr W) => show Calls Try.prog 33 #[.pointer (some ⟨G i, 0, none⟩), .pointer (some ⟨G b, 0, none⟩)] W fun e w' => e = .returned (.int .i64 s) ∧ Qt wr w' from by
                  have h := cmp_any (G i) (G b) _ _ W ((HRQ.out.gr i hlt).1.kept (hw.below _)) ((HRQ.out.gr b (by omega)).1.kept (hw.below _)) (hrb i) (hrb b)
                  rw [← hs1] at h
                  exact h.mono fun e w' ⟨h1, h2⟩ => ⟨h1, hw.trans h2⟩)
                have HBS := Lib.hid (bst_less hbb (Nat.le_of_not_lt hc))
                have s0 : decide (0 < s) = false := decide_eq_false (by omega)
                clear hbb hb2 hb3 hb4 hh hlt hi hc hrb hs1 hs2
                go_wp2
                refine wp_region_inv 21 (fun W => Qt wr W) (by kernel_rfl) (by kernel_rfl) (fun q => ⟨q, rfl⟩) ?_
                simp only [List.take_succ_cons, List.take_zero]
                iterate 21
                  first
                    | (apply wpInv_cons
                       · rfl
                       · intro Wx hw
                         have k9 := (hw.cell ⟨g9, i, none⟩).trans z9
                         have k8 := (hw.cell ⟨g8, i, none⟩).trans z8i
                         have k7 := (hw.cell ⟨g8, b, none⟩).trans z8b
                         first
                           | (go_simp; exact ⟨hw, rfl⟩)
                           | (go_simp; show Calls _ _ _ _ _; with_reducible exact HK33.out _ hw))
                    | (apply wpInv_skip
                       · rfl)
                  simp only [Act.put, List.setIfInBounds_toArray, List.set_cons_zero, List.set_cons_succ]
                refine wpInv_nil fun V3 hV => ?_
                have HV := Lib.hid (hqt.trans hV)
                clear hV
                simp only [List.drop_succ_cons, List.drop_zero]
                go_wp2
                go_roundw
                case rel => exact ⟨i + 1, b, HI.out, rfl, by go_num, HBS.out, HV.out⟩
                case measure => have := HI.out; simp [intOf]; omega
          case neg =>
            have t6 : decide ((i : Int) < (l.length : Int)) = false := decide_eq_false (by omega)
            have t6n : decide (i < l.length) = false := decide_eq_false hlt
            obtain rfl : i = l.length := by omega
            obtain ⟨b, hbv, hbn, hbc⟩ := bst_end HHAS.out (by have := HJL.out; have := HLL.out; omega) hbst
            subst hbv
            have i2 : (b : Int) < (l.length : Int) := by omega
            have HBN := Lib.hid hbn
            have HBC := Lib.hid hbc
            have HBQ := Lib.hid (HBJ.out.trans ((hqt.below _).mono HBJ.out.size))
            have HM0 := Lib.hid (noneYet_eq HRJ.out.o9)
            obtain ⟨q, hq⟩ : ∃ q, q = qV t.toNat l b := ⟨_, rfl⟩
            have z7 := own_cell HRQ.out.o7 (rowQ_get (c := shJ t.toNat l j) hbn)
            rw [shJ_at2 hbc, ← hq] at z7
            have HQS := Lib.hid (show q + 1 ≤ t.toNat by
              have h1 := q_small (t := t.toNat) HK.out.2.2.1 hbn
              have h2 := HLV.out
              have h3 := HJL.out
              omega)
            obtain ⟨q1, hq1⟩ : ∃ q1, q1 = q + 1 := ⟨_, rfl⟩
            have w1 : IntKind.u64.wrap ((q : Int) + 1) = (q1 : Int) := by rw [hq1, IntKind.wrap_u64]; have := HQS.out; have := HT.out; omega
            have HS7 := Lib.hid (HRQ.out.set7 b q1 hbn)
            have HS9 := Lib.hid (HS7.out.set9 b hbn)
            have HQE := Lib.hid (hq1.trans (congrArg (· + 1) hq))
            have f7 : wr.frozen? ⟨g7, b, none⟩ = false := by
              rcases HRQ.out.o7.2 with ⟨h1, _⟩ | ⟨g', cap', cur, h1, _, h2, _⟩
              · cases h1
              · injection h1 with h1
                injection h1 with h1
                injection h1 with h1
                subst h1
                exact frozen_of_row _ _ b _ _ h2
            have z9 : ∃ u, (wr.setCell ⟨g7, b, none⟩ (.int .u64 (q1 : Int))).cell? ⟨g9, b, none⟩ = some u := ⟨_, own_cell HS7.out.o9 (bools_get hbn)⟩
            obtain ⟨u9, z9⟩ := z9
            have f9 : (wr.setCell ⟨g7, b, none⟩ (.int .u64 (q1 : Int))).frozen? ⟨g9, b, none⟩ = false := by
              rcases HS7.out.o9.2 with ⟨h1, _⟩ | ⟨g', cap', cur, h1, _, h2, _⟩
              · cases h1
              · injection h1 with h1
                injection h1 with h1
                injection h1 with h1
                subst h1
                exact frozen_of_row _ _ b _ _ h2
            obtain ⟨W2, hW2⟩ : ∃ W2, W2 = (wr.setCell ⟨g7, b, none⟩ (.int .u64 (q1 : Int))).setCell ⟨g9, b, none⟩ (.bool true) := ⟨_, rfl⟩
            have HW2 := Lib.hid hW2
            have hs9 := HS9.out
            rw [← hW2] at hs9
            have HR2 := Lib.hid hs9
            have HB2 := Lib.hid (show Below w.heap.size w W2 by
              have e1 : Below w.heap.size w (wr.setCell ⟨g7, b, none⟩ (.int .u64 (q1 : Int))) := HBQ.out.grown (grown_set (grown_refl wr (some g7)) b _) HBQ.out.size (fun k hk => by cases hk; exact HGE.out.1)
              rw [hW2]
              exact e1.grown (grown_set (grown_refl _ (some g9)) b _) e1.size (fun k hk => by cases hk; exact HGE.out.2))
            have KB := Lib.hid (show Calls Try.prog 26 #[.int .u64 1] W2 fun e w' => e = .returned (.pointer (some ⟨W2.heap.size, 0, none⟩)) ∧ IntAt w' W2.heap.size ((1 : Nat) : Int) ∧ Below W2.heap.size W2 w' from big_n 1 (by decide) W2)
            clear hbst hqt hlt hi hbn hbc hq hq1 hW2 hs9
            go_wp2_with fail
            rw [← HW2.out]
            refine KB.out.mono ?_
            rintro e w6 ⟨rfl, hi6, hb6⟩
            have HR6 := Lib.hid (HR2.out.kept hb6)
            have HB6 := Lib.hid (HB2.out.trans (hb6.mono HB2.out.size))
            have K41 := Lib.hid (sub_any gl gl W2.heap.size _ _ w6 HR6.out.left.isInt HR6.out.left hi6 (by rw [Int.natAbs_natCast]; exact pw900_ge _ (by have := HLL.out; have := HLN.out; omega)) (by decide +kernel) (by have := isInt_lt HR2.out.left.isInt; omega))
            clear hi6 hb6 KB HW2
            go_wp2_with fail
            refine K41.out.mono ?_
            rintro e w7 ⟨rfl, hg7, hi7⟩
            rw [show ((lv - j : Nat) : Int) - ((1 : Nat) : Int) = ((lv - (j + 1) : Nat) : Int) by have := HJL.out; omega] at hi7
            have HR7 := Lib.hid ((HR6.out.setL hg7 hi7).c_congr (c' := shJ t.toNat l (j + 1)) (h' := fun k => decide (cntM (rV t.toNat l) l.length k < j + 1)) (fun k hk => by rw [HQE.out]; exact shJ_next HBN.out HBC.out k hk) (fun k hk => by
              have hh := HBC.out
              by_cases e : k = b
              · rw [e, decide_eq_true rfl, decide_eq_true (show cntM (rV t.toNat l) l.length b < j + 1 by omega)]; rfl
              · have hne : cntM (rV t.toNat l) l.length k ≠ j := fun e2 => e (cntM_inj (r := rV t.toNat l) hk HBN.out (by omega))
                rw [decide_eq_false e, Bool.false_or]
                by_cases c : cntM (rV t.toNat l) l.length k < j
                · rw [decide_eq_true c, decide_eq_true (by omega)]
                · rw [decide_eq_false c, decide_eq_false (by omega)]))
            have HB7 := Lib.hid (show Below w.heap.size w w7 from HB6.out.grown hg7 HB6.out.size (fun k hk => by cases hk; exact HR6.out.wl))
            have HHN := Lib.hid (hasN_step HHAS.out HBN.out HBC.out)
            clear hg7 hi7 K41
            go_wp2
            go_roundw
            case rel => exact ⟨j + 1, HJL.out, HHN.out, HB7.out, HR7.out⟩
            case measure =>
              have h1 := HM0.out
              have h2 := noneYet_eq HR7.out.o9
              have h3 : hasN (rV t.toNat l) l.length j = j := HHAS.out
              have h4 : hasN (rV t.toNat l) l.length (j + 1) = j + 1 := HHN.out
              unfold hasN at h3 h4
              rw [h3] at h1
              rw [h4] at h2
              omega
end Go.Proofs.Ytdkfaicmdbhonaa
