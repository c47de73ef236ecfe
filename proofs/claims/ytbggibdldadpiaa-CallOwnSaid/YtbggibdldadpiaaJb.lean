/-
  Layer 19: what pairs gain, as the program adds it up.
-/
import Derived.Test.YtbggibdldadpiaaJa
import Derived.Test.YtbggibdldadpiaaPa
import Derived.Laws.Externs
namespace Go.Proofs.Ytbggibdldadpiaa
open Go.RowKit Go.K
open Go.Stab (swp rot Srt Prm Out)
set_option linter.unusedVariables false
set_option linter.unusedSimpArgs false
def gI (x : List Int) (i : Nat) : Int := x.getD i 0
theorem vI_at {W : World} {a : Option Addr} {l : List Int} (h : Sl W a (vI l)) (k : Nat) (hk : k < l.length) : ∃ b o, a = some ⟨b, o, none⟩ ∧ W.cell? ⟨b, o + k, none⟩ = some (.int .i64 (gI l k)) := by
  obtain ⟨b, o, he, hc⟩ := h (vI_ne hk)
  refine ⟨b, o, he, ?_⟩
  rw [hc k (by rw [vI_length]; exact hk), vI_get l k hk]
  unfold gI
  rw [List.getD_eq_getElem?_getD, List.getElem?_eq_getElem hk]; rfl
def add64E : Array Value → Sem Value := (Extern.MathBitsCarry.rows[0]!).2
theorem call39 (x y : Nat) (w : World) : (callFunc 39 #[.int .u64 (x : Int), .int .u64 (y : Int), .int .u64 0]).run Try.prog w = .ok (.value (.tuple #[.int .u64 (((x + y) % 18446744073709551616 : Nat) : Int), .int .u64 (((x + y) / 18446744073709551616 : Nat) : Int)])) w := by
  rw [run_callFunc_extern (e := add64E) Try.func39 (by kernel_rfl) (by kernel_rfl) (by kernel_rfl) (by kernel_rfl)]
  show Result.ok (Next.value (Extern.MathBitsCarry.pair (((x : Int).toNat + (y : Int).toNat + 0) % 18446744073709551616) (((x : Int).toNat + (y : Int).toNat + 0) / 18446744073709551616))) w = _
  rfl
theorem gain1_lt (xs ys : List (BitVec 64)) (a b : Int) : gain1 xs ys a b < 18446744073709551616 := by
  unfold gain1
  have := lq_lt ys b.toNat
  split <;> omega
theorem gn_lt (xs ys : List (BitVec 64)) (x y : Nat → Int) (n : Nat) : gn xs ys x y n ≤ n * 18446744073709551616 := by
  induction n with
  | zero => exact Nat.zero_le _
  | succ n ih => have := gain1_lt xs ys (x n) (y n); simp only [gn]; omega
set_option maxRecDepth 100000 in
set_option maxHeartbeats 2000000 in
theorem gain_any (xs ys : List (BitVec 64)) (x y : List Int) (aa ba xa ya : Option Addr) (ca cb cx cy p q : Nat) (w : World) (hnx : x.length ≤ 17592186043904) (hny : y.length ≤ 17592186043904) (hna : xs.length ≤ 17592186043904) (hnb : ys.length ≤ 17592186043904)
    (ha : Sl w aa (vQ xs)) (hb : Sl w ba (vQ ys)) (hx : Sl w xa (vI x)) (hy : Sl w ya (vI y)) :
    Calls Try.prog 18 #[.slice aa xs.length ca, .slice ba ys.length cb, .agg #[.slice xa x.length cx, .slice ya y.length cy, .int .u64 p, .int .u64 q]] w fun r w' =>
      r = .returned (.tuple #[.int .u64 ((gn xs ys (gI x) (gI y) (min x.length y.length) / 18446744073709551616 : Nat) : Int), .int .u64 ((gn xs ys (gI x) (gI y) (min x.length y.length) % 18446744073709551616 : Nat) : Int)]) ∧ Below w.heap.size w w' := by
  obtain ⟨n, hn⟩ : ∃ n, n = min x.length y.length := ⟨_, rfl⟩
  rw [← hn]
  obtain ⟨w1, hw1⟩ : ∃ w1, w1 = w.alloc (.cells #[.slice xa x.length cx, .slice ya y.length cy, .int .u64 p, .int .u64 q] 27) := ⟨_, rfl⟩
  have HB := Lib.hid (show Below w.heap.size w w1 by rw [hw1]; exact (Below.refl _ _).alloc (Nat.le_refl _) _)
  have hr1 : w1.heap[w.heap.size]? = some (.cells #[.slice xa x.length cx, .slice ya y.length cy, .int .u64 p, .int .u64 q] 27) := by rw [hw1]; exact alloc_at rfl
  have HA := Lib.hid (ha.kept HB.out)
  have HBB := Lib.hid (hb.kept HB.out)
  have HX := Lib.hid (hx.kept HB.out)
  have HY := Lib.hid (hy.kept HB.out)
  have HR := Lib.hid hr1
  have HW := Lib.hid hw1
  have m1 : min (x.length : Int) (y.length : Int) = (n : Int) := by omega
  have HN := Lib.hid (show n ≤ x.length ∧ n ≤ y.length ∧ n ≤ 17592186043904 by omega)
  have k1 : w1.cell? ⟨w.heap.size, 0, none⟩ = some (.slice xa x.length cx) := by rw [cell_of_row _ _ _ _ _ _ hr1]; rfl
  have k2 : w1.cell? ⟨w.heap.size, 1, none⟩ = some (.slice ya y.length cy) := by rw [cell_of_row _ _ _ _ _ _ hr1]; rfl
  clear ha hb hx hy hr1 hw1 hn
  go_enter Try.func18, Try.ntmps18
  go_upto_region 1 with fail
  rw [← HW.out]
  go_upto_region 2 with fail
  go_cut [20, 21] from 14 to 21 (fun s20 s21 W => s20 = .int .i64 n ∧ s21 = .int .i64 0 ∧ W = w1)
  case first =>
    by_cases c : y.length < x.length
    · have e : y.length = n := by omega
      go_wp2
      all_goals
        go_meet
        exact ⟨rfl, rfl, rfl⟩
    · have e : x.length = n := by omega
      go_wp2
      all_goals
        go_meet
        exact ⟨rfl, rfl, rfl⟩
  case rest =>
  obtain ⟨rfl, rfl, rfl⟩ := hcut
  clear m1
  go_wp2
  go_loopw [8, 9, 21] (fun x8 x9 x21 V => ∃ i : Nat, i ≤ n ∧ x8 = .int .u64 ((gn xs ys (gI x) (gI y) i / 18446744073709551616 : Nat) : Int) ∧ x9 = .int .u64 ((gn xs ys (gI x) (gI y) i % 18446744073709551616 : Nat) : Int) ∧ x21 = .int .i64 i ∧ Qt wc V) (fun _ _ x21 _ => n - (intOf x21).toNat)
  case atStart => exact ⟨0, Nat.zero_le _, by simp [gn], by simp [gn], rfl, Qt.refl _⟩
  case round =>
    obtain ⟨i, hi, rfl, rfl, rfl, hq⟩ := hrel
    have HQ := Lib.hid hq
    clear hq
    by_cases hlt : i < n
    · have t0 : decide ((i : Int) < (n : Int)) = true := decide_eq_true (by omega)
      have t0n : decide (i < n) = true := decide_eq_true hlt
      have HI := Lib.hid hlt
      have z1 := (HQ.out.cell ⟨w.heap.size, 0, none⟩).trans k1
      have z2 := (HQ.out.cell ⟨w.heap.size, 1, none⟩).trans k2
      have lx : i < x.length := by have := HN.out; omega
      have ly : i < y.length := by have := HN.out; omega
      have lx' : (i : Int) < (x.length : Int) := by omega
      have ly' : (i : Int) < (y.length : Int) := by omega
      obtain ⟨b1, o1, hxa, z3⟩ := vI_at (HX.out.kept (HQ.out.below _)) i lx
      obtain ⟨b2, o2, hya, z4⟩ := vI_at (HY.out.kept (HQ.out.below _)) i ly
      have w5 : IntKind.i64.wrap ((i : Int) + 1) = ((i + 1 : Nat) : Int) := by rw [IntKind.wrap_i64]; have := HN.out; omega
      have HG := Lib.hid (show gn xs ys (gI x) (gI y) (i + 1) = gn xs ys (gI x) (gI y) i + gain1 xs ys (gI x i) (gI y i) from rfl)
      have HGL := Lib.hid (show gn xs ys (gI x) (gI y) i ≤ i * 18446744073709551616 from gn_lt _ _ _ _ _)
      have HAQ := Lib.hid (HA.out.kept (HQ.out.below _))
      have HBQ := Lib.hid (HBB.out.kept (HQ.out.below _))
      rw [hxa] at z1
      rw [hya] at z2
      clear hlt hi lx ly hxa hya
      obtain ⟨G1, hG1e⟩ : ∃ G1, G1 = gn xs ys (gI x) (gI y) (i + 1) := ⟨_, rfl⟩
      have HGE1 := Lib.hid hG1e.symm
      rw [← hG1e] at HG
      clear hG1e
      generalize gn xs ys (gI x) (gI y) i = G at *
      generalize hgx : gI x i = a at *
      generalize hgy : gI y i = b at *
      clear hgx hgy
      go_upto_region 5 with fail
      go_quiet (fail)
      by_cases c1 : a < 0
      · have s1 : decide (a < 0) = true := decide_eq_true (by omega)
        have HZ := Lib.hid (show gain1 xs ys a b = 0 by unfold gain1 okP; rw [if_neg]; simp; try omega)
        have HG2 := Lib.hid (show G1 = G by rw [HG.out, HZ.out]; rfl)
        clear c1
        go_wp2
        go_quiet (fail)
        go_wp2
        go_roundw
        case rel => exact ⟨i + 1, HI.out, by rw [HGE1.out, HG2.out], by rw [HGE1.out, HG2.out], by go_num, HQ.out.trans ⟨_, rfl⟩⟩
        case measure => have := HI.out; simp [intOf]; omega
      · have s1 : decide (a < 0) = false := decide_eq_false (by omega)
        obtain ⟨a', rfl⟩ := Int.eq_ofNat_of_zero_le (show 0 ≤ a by omega)
        by_cases c2 : xs.length ≤ a'
        · have s2 : decide ((xs.length : Int) ≤ (a' : Int)) = true := decide_eq_true (by omega)
          have s2n : decide (xs.length ≤ a') = true := decide_eq_true (by omega)
          have HZ := Lib.hid (show gain1 xs ys (a' : Int) b = 0 by unfold gain1 okP; rw [if_neg]; simp; try omega)
          have HG2 := Lib.hid (show G1 = G by rw [HG.out, HZ.out]; rfl)
          clear c1 c2
          go_wp2
          go_quiet (fail)
          go_wp2
          go_roundw
          case rel => exact ⟨i + 1, HI.out, by rw [HGE1.out, HG2.out], by rw [HGE1.out, HG2.out], by go_num, HQ.out.trans ⟨_, rfl⟩⟩
          case measure => have := HI.out; simp [intOf]; omega
        · have s2 : decide ((xs.length : Int) ≤ (a' : Int)) = false := decide_eq_false (by omega)
          have s2n : decide (xs.length ≤ a') = false := decide_eq_false (by omega)
          by_cases c3 : b < 0
          · have s3 : decide (b < 0) = true := decide_eq_true (by omega)
            have HZ := Lib.hid (show gain1 xs ys (a' : Int) b = 0 by unfold gain1 okP; rw [if_neg]; simp; try omega)
            have HG2 := Lib.hid (show G1 = G by rw [HG.out, HZ.out]; rfl)
            clear c1 c2 c3
            go_wp2
            go_quiet (fail)
            go_wp2
            go_roundw
            case rel => exact ⟨i + 1, HI.out, by rw [HGE1.out, HG2.out], by rw [HGE1.out, HG2.out], by go_num, HQ.out.trans ⟨_, rfl⟩⟩
            case measure => have := HI.out; simp [intOf]; omega
          · have s3 : decide (b < 0) = false := decide_eq_false (by omega)
            obtain ⟨b', rfl⟩ := Int.eq_ofNat_of_zero_le (show 0 ≤ b by omega)
            by_cases c4 : ys.length ≤ b'
            · have s4 : decide ((ys.length : Int) ≤ (b' : Int)) = true := decide_eq_true (by omega)
              have s4n : decide (ys.length ≤ b') = true := decide_eq_true (by omega)
              have HZ := Lib.hid (show gain1 xs ys (a' : Int) (b' : Int) = 0 by unfold gain1 okP; rw [if_neg]; simp; try omega)
              have HG2 := Lib.hid (show G1 = G by rw [HG.out, HZ.out]; rfl)
              clear c1 c2 c3 c4
              go_wp2
              go_quiet (fail)
              go_wp2
              go_roundw
              case rel => exact ⟨i + 1, HI.out, by rw [HGE1.out, HG2.out], by rw [HGE1.out, HG2.out], by go_num, HQ.out.trans ⟨_, rfl⟩⟩
              case measure => have := HI.out; simp [intOf]; omega
            · have s4 : decide ((ys.length : Int) ≤ (b' : Int)) = false := decide_eq_false (by omega)
              have s4n : decide (ys.length ≤ b') = false := decide_eq_false (by omega)
              obtain ⟨b3, o3, rfl, z5⟩ := vQ_at HAQ.out a' (by omega)
              obtain ⟨b4, o4, rfl, z6⟩ := vQ_at HBQ.out b' (by omega)
              have l5 : (a' : Int) < (xs.length : Int) := by omega
              have l6 : (b' : Int) < (ys.length : Int) := by omega
              have hG1 := HG.out
              have hb5 := lq_lt ys b'
              by_cases c5 : lq ys b' < lq xs a'
              · have s5 : decide ((lq ys b' : Int) < (lq xs a' : Int)) = true := decide_eq_true (by omega)
                have s5n : decide (lq ys b' < lq xs a') = true := decide_eq_true c5
                have HZ0 := Lib.hid (show gain1 xs ys (a' : Int) (b' : Int) = 0 by unfold gain1 okP; rw [Int.toNat_natCast, Int.toNat_natCast, if_neg]; simp; omega)
                generalize lq xs a' = va at *
                generalize lq ys b' = vb at *
                have HZ := HZ0
                have HG2 := Lib.hid (show G1 = G by rw [HG.out, HZ.out]; rfl)
                clear c1 c2 c3 c4 c5 hG1 hb5
                go_wp2
                go_quiet (fail)
                go_wp2
                go_roundw
                case rel => exact ⟨i + 1, HI.out, by rw [HGE1.out, HG2.out], by rw [HGE1.out, HG2.out], by go_num, HQ.out.trans ⟨_, rfl⟩⟩
                case measure => have := HI.out; simp [intOf]; omega
              · have s5 : decide ((lq ys b' : Int) < (lq xs a' : Int)) = false := decide_eq_false (by omega)
                have s5n : decide (lq ys b' < lq xs a') = false := decide_eq_false c5
                have HZ := Lib.hid (show gain1 xs ys (a' : Int) (b' : Int) = lq ys b' - lq xs a' by unfold gain1 okP; rw [Int.toNat_natCast, Int.toNat_natCast, if_pos]; simp; omega)
                rw [HZ.out] at hG1
                generalize lq xs a' = va at *
                generalize lq ys b' = vb at *
                obtain ⟨d, hd⟩ : ∃ d, d = vb - va := ⟨_, rfl⟩
                have w6 : IntKind.u64.wrap ((vb : Int) - (va : Int)) = (d : Int) := by rw [IntKind.wrap_u64]; omega
                rw [← hd] at hG1
                have hdl : d < 18446744073709551616 := by omega
                obtain ⟨hi0, hhi⟩ : ∃ h, h = G / 18446744073709551616 := ⟨_, rfl⟩
                obtain ⟨lo0, hlo⟩ : ∃ l, l = G % 18446744073709551616 := ⟨_, rfl⟩
                have hc39 := fun V => call39 lo0 d V
                obtain ⟨cy0, hcy⟩ : ∃ c, c = (lo0 + d) / 18446744073709551616 := ⟨_, rfl⟩
                obtain ⟨lo1, hlo1⟩ : ∃ l, l = (lo0 + d) % 18446744073709551616 := ⟨_, rfl⟩
                have w7 : IntKind.u64.wrap ((hi0 : Int) + (cy0 : Int)) = ((G1 / 18446744073709551616 : Nat) : Int) := by
                  have h1 := HGL.out
                  have h2 := HN.out
                  have h3 := HI.out
                  have h4 : i * 18446744073709551616 ≤ 17592186043904 * 18446744073709551616 := Nat.mul_le_mul_right _ (by omega)
                  rw [IntKind.wrap_u64]; omega
                have HLO := Lib.hid (show lo1 = G1 % 18446744073709551616 by omega)
                rw [← hlo1, ← hcy] at hc39
                rw [← hhi, ← hlo]
                have HG2 := Lib.hid hG1
                clear c1 c2 c3 c4 c5 hG1 hb5 hd hdl hhi hlo hcy hlo1
                go_wp2
                go_quiet (fail)
                go_wp2
                go_quiet (fail)
                go_wp2
                go_roundw
                case rel => exact ⟨i + 1, HI.out, by rw [HGE1.out]; simp, by rw [HGE1.out, HLO.out], by go_num, HQ.out.trans ⟨_, rfl⟩⟩
                case measure => have := HI.out; simp [intOf]; omega
    · have t0 : decide ((i : Int) < (n : Int)) = false := decide_eq_false (by omega)
      have t0n : decide (i < n) = false := decide_eq_false hlt
      have hie : i = n := by omega
      have HE := Lib.hid (show gn xs ys (gI x) (gI y) i = gn xs ys (gI x) (gI y) n by rw [hie])
      clear hlt hi hie k1 k2
      generalize gn xs ys (gI x) (gI y) i = G at *
      go_wp2
      go_ret2
      exact ⟨by rw [← HE.out]; rfl, HB.out.trans ((HQ.out.below _).mono HB.out.size)⟩
end Go.Proofs.Ytbggibdldadpiaa
