/-
  Layer 19: entries: two lists of entries that share nothing, gone on with, written, looked at.
-/
import Derived.Test.YtbggibdldadpiaaDuo
import Derived.Test.YtbggibdldadpiaaYa
import Derived.Test.YtbggibdldadpiaaApart
import Derived.Deep.AppendLies
namespace Go.Proofs.Ytbggibdldadpiaa
open Go.RowKit Go.K
set_option linter.unusedVariables false
set_option linter.unusedSimpArgs false
def mE1 (k : Nat) : List Value := [.int .i64 (-8 - (k : Int)), .int .i64 0, .int .u64 0, .int .u64 0, .slice none 0 0]
def mE2 (k : Nat) : List Value := [.int .i64 (-9000 - (k : Int)), .int .i64 0, .int .u64 0, .int .u64 0, .slice none 0 0]
theorem one_mE1 (k : Nat) : ∀ u ∈ mE1 k, u.oneCell' = true := by intro u hu; simp only [mE1, List.mem_cons, List.not_mem_nil, or_false] at hu; rcases hu with rfl | rfl | rfl | rfl | rfl <;> rfl
theorem one_mE2 (k : Nat) : ∀ u ∈ mE2 k, u.oneCell' = true := by intro u hu; simp only [mE2, List.mem_cons, List.not_mem_nil, or_false] at hu; rcases hu with rfl | rfl | rfl | rfl | rfl <;> rfl
theorem eoE : (Try.prog.info? 53).map (fun i => (i.zero, i.size, i.bytes)) = some (some (.agg #[.int .i64 0, .int .i64 0, .int .u64 0, .int .u64 0, .slice none 0 0]), 5, 56) := by kernel_rfl
set_option maxRecDepth 100000 in
set_option maxHeartbeats 4000000 in
theorem entries_any (B n : Nat) (xs ys : List Value) (a b : Option Addr) (c d : Nat) (w : World) (hn : n ≤ 1000000) (ha : w.ownsRow B 53 5 (.slice a n c) n xs) (hb : w.ownsRow B 53 5 (.slice b n d) n ys) (hab : offB (.slice a n c) (.slice b n d)) (hB : B ≤ w.heap.size) :
    Calls Try.prog 27 #[.slice a n c, .slice b n d] w fun e w' => e = .returned (.bool true) ∧ Only (fun x => (Value.slice a n c).ownBlock = some x ∨ (Value.slice b n d).ownBlock = some x) w w' := by
  have HA := Lib.hid ha
  have HB := Lib.hid hb
  have HBW := Lib.hid hB
  have HT0 := Lib.hid (Two.start ha hb hab)
  have HAL := Lib.hid (fun x h => (ha.lt x h).2)
  have HBL := Lib.hid (fun x h => (hb.lt x h).2)
  have HAB := Lib.hid hab
  clear ha hb hab hB
  go_enter Try.func27, Try.ntmps27
  go_wp2
  go_loopw [5, 6, 7] (fun x5 x6 x7 wr => ∃ (k : Nat) (vg vh : Value), vg = x5 ∧ vh = x6 ∧ k ≤ 40 ∧ x7 = .int .i64 k ∧ Two B 53 5 w wr (.slice a n c) (.slice b n d) n n xs ys k k (flatM mE1 k) (flatM mE2 k) vg vh) (fun _ _ x7 _ => 40 - (intOf x7).toNat)
  case atStart => exact ⟨0, _, _, rfl, rfl, by omega, rfl, HT0.out⟩
  case round =>
    clear HT0
    obtain ⟨k, vg, vh, hvg, hvh, hk, rfl, ht⟩ := hrel
    subst hvg hvh
    have HT := Lib.hid ht
    clear ht
    by_cases hlt : k < 40
    case pos =>
      have t0 : decide ((k : Int) < 40) = true := by simp; omega
      have w1 : IntKind.i64.wrap (-8 - (k : Int)) = -8 - (k : Int) := by rw [IntKind.wrap_i64]; omega
      have w2 : IntKind.i64.wrap (-9000 - (k : Int)) = -9000 - (k : Int) := by rw [IntKind.wrap_i64]; omega
      have w3 : IntKind.i64.wrap ((k : Int) + 1) = ((k + 1 : Nat) : Int) := by rw [IntKind.wrap_i64]; omega
      have h63 : n + k + 1 ≤ maxLen := by unfold maxLen; omega
      have hby : (n + k + 1) * 56 ≤ 140737488355328 := by omega
      have HA1 := Lib.hid (show Below wr.heap.size wr (wr.alloc (.cells (mE1 k).toArray 53)) from (Below.refl _ _).alloc (Nat.le_refl _) _)
      have HT1 := Lib.hid (HT.out.below HA1.out)
      have hb1 : B ≤ (wr.alloc (.cells (mE1 k).toArray 53)).heap.size := by have h1 := HT.out.only.size; have h2 := HA1.out.size; have h3 := HBW.out; omega
      have HK := Lib.hid hlt
      clear HT hlt hk
      go_wp2_with (at_builtin; refine wpList_append_two rfl _ _ 49 rfl B 53 (.agg #[.int .i64 0, .int .i64 0, .int .u64 0, .int .u64 0, .slice none 0 0]) 5 56 Try.underlying49 eoE (by rfl) (by decide) vg (n + k) (xs ++ flatM mE1 k) (by rfl) HT1.out.a.own ⟨wr.heap.size, 0, none⟩ 1 1 (mE1 k) (by rfl) (by decide) (by rfl) (sl_new wr (mE1 k) 53 (0, 0)) (one_mE1 k) h63 hby hb1 ?a1)
      intro v5 w5 ho5 hg5 hl5
      have HT5 := Lib.hid (HT1.out.app (news := mE1 k) HAL.out HBL.out (by rw [List.append_assoc]; exact ho5) hg5 (by rw [show (wr.alloc (.cells (mE1 k).toArray 53)).heap.size = wr.heap.size + 1 by simp]; exact hl5))
      have HA5 := Lib.hid (show Below w5.heap.size w5 (w5.alloc (.cells (mE2 k).toArray 53)) from (Below.refl _ _).alloc (Nat.le_refl _) _)
      have HT6 := Lib.hid (HT5.out.below HA5.out)
      have hb5 : B ≤ (w5.alloc (.cells (mE2 k).toArray 53)).heap.size := by have h1 := HT5.out.only.size; have h2 := HA5.out.size; have h3 := HBW.out; omega
      clear ho5 hg5 hl5 HT1 HA1 hb1 HT5
      go_wp2_with (at_builtin; refine wpList_append_two rfl _ _ 49 rfl B 53 (.agg #[.int .i64 0, .int .i64 0, .int .u64 0, .int .u64 0, .slice none 0 0]) 5 56 Try.underlying49 eoE (by rfl) (by decide) vh (n + k) (ys ++ flatM mE2 k) (by rfl) HT6.out.b.own ⟨w5.heap.size, 0, none⟩ 1 1 (mE2 k) (by rfl) (by decide) (by rfl) (sl_new w5 (mE2 k) 53 (0, 0)) (one_mE2 k) h63 hby hb5 ?a2)
      intro v6 w6 ho6 hg6 hl6
      have HT7 := Lib.hid ((HT6.out.swap.app (news := mE2 k) HBL.out HAL.out (by rw [List.append_assoc]; exact ho6) hg6 (by rw [show (w5.alloc (.cells (mE2 k).toArray 53)).heap.size = w5.heap.size + 1 by simp]; exact hl6)).swap)
      rw [← flatM_succ, ← flatM_succ] at HT7
      clear ho6 hg6 hl6 HT6 HA5 hb5
      go_wp2
      go_roundw
      case rel => exact ⟨k + 1, _, _, rfl, rfl, HK.out, by go_num, HT7.out⟩
      case measure => have := HK.out; simp [intOf]; omega
    case neg =>
      have t0 : decide ((k : Int) < 40) = false := by simp; omega
      obtain rfl : k = 40 := by omega
      obtain ⟨gG, cG, _, hvg, _⟩ := owns_cases HT.out.a.own (by omega)
      obtain ⟨gH, cH, _, hvh, _⟩ := owns_cases HT.out.b.own (by omega)
      subst hvg hvh
      obtain ⟨gA, hgA⟩ : ∃ gA, 0 < n → (Value.slice a n c).ownBlock = some gA := by
        by_cases h : 0 < n
        · obtain ⟨g, hg⟩ := own_block_of HA.out h; exact ⟨g, fun _ => hg⟩
        · exact ⟨0, fun h2 => absurd h2 h⟩
      obtain ⟨gB, hgB⟩ : ∃ gB, 0 < n → (Value.slice b n d).ownBlock = some gB := by
        by_cases h : 0 < n
        · obtain ⟨g, hg⟩ := own_block_of HB.out h; exact ⟨g, fun _ => hg⟩
        · exact ⟨0, fun h2 => absurd h2 h⟩
      have HGA := Lib.hid hgA
      have HGB := Lib.hid hgB
      have HAA := Lib.hid (show 0 < n → a = some ⟨gA, 0, none⟩ from fun h => by
        obtain ⟨g, _, _, hv, _⟩ := owns_cases HA.out h
        have := hgA h
        injection hv with h1 h2 h3
        rw [h1] at this ⊢
        have e : g = gA := Option.some.inj this
        rw [e])
      have HBB := Lib.hid (show 0 < n → b = some ⟨gB, 0, none⟩ from fun h => by
        obtain ⟨g, _, _, hv, _⟩ := owns_cases HB.out h
        have := hgB h
        injection hv with h1 h2 h3
        rw [h1] at this ⊢
        have e : g = gB := Option.some.inj this
        rw [e])
      have HNE := Lib.hid (show 0 < n → gA ≠ gB ∧ gA ≠ gH ∧ gB ≠ gG from fun h => ⟨fun e => HAB.out gA (hgA h) (e ▸ hgB h), fun e => HT.out.ah gA (hgA h) (by rw [e]; rfl), fun e => HT.out.bg gB (hgB h) (by rw [e]; rfl)⟩)
      have HM0 := Lib.hid (Mk.start (ma := fun _ => .int .i64 (-1)) (mb := fun _ => .int .i64 (-2)) (mg := fun k => .int .i64 (-8 - (k : Int))) (mh := fun k => .int .i64 (-9000 - (k : Int))) HT.out (by decide) HA.out.1 HB.out.1
        (fun k hk => by have := flatM_get (mk := mE1) (sz := 5) (fun _ => rfl) 40 k 0 hk (by decide); rw [Nat.add_zero] at this; exact this) (fun k hk => by have := flatM_get (mk := mE2) (sz := 5) (fun _ => rfl) 40 k 0 hk (by decide); rw [Nat.add_zero] at this; exact this) hgA hgB)
      have HO0 := Lib.hid HT.out.only
      clear hgA hgB HT hk hlt
      go_wp2
      go_loopw [8] (fun x8 wr => ∃ i : Nat, i ≤ n ∧ x8 = .int .i64 i ∧ Mk 5 wr gA gB gG gH n 40 (fun _ => .int .i64 (-1)) (fun _ => .int .i64 (-2)) (fun k => .int .i64 (-8 - (k : Int))) (fun k => .int .i64 (-9000 - (k : Int))) i i ∧ Only (fun x => (Value.slice a n c).ownBlock = some x ∨ (Value.slice b n d).ownBlock = some x) w wr) (fun x8 _ => n - (intOf x8).toNat)
      case atStart => exact ⟨0, by omega, rfl, HM0.out, HO0.out⟩
      case round =>
        clear HM0 HO0
        obtain ⟨i, hi, rfl, hm, ho⟩ := hrel
        have HM := Lib.hid hm
        have HO := Lib.hid ho
        clear hm ho
        by_cases hlt : i < n
        case pos =>
          have t1 : decide ((i : Int) < (n : Int)) = true := by simp; omega
          have t1n : decide (i < n) = true := by simp; omega
          have i1 : (i : Int) < (n : Int) := by omega
          have w3 : IntKind.i64.wrap ((i : Int) + 1) = ((i + 1 : Nat) : Int) := by rw [IntKind.wrap_i64]; omega
          have hpos : 0 < n := by omega
          obtain rfl := HAA.out hpos
          obtain rfl := HBB.out hpos
          obtain ⟨n1, n2, n3⟩ := HNE.out hpos
          obtain ⟨u1, z1⟩ := HM.out.xa i hlt
          have f1 := HM.out.fa i hlt
          have HM1 := Lib.hid (HM.out.setA (by decide) hlt n1 n2 (v := .int .i64 (-1)) rfl)
          obtain ⟨u2, z2⟩ := HM1.out.xb i hlt
          have f2 := HM1.out.fb i hlt
          have HM2 := Lib.hid (HM1.out.setB (by decide) hlt n1 n3 (v := .int .i64 (-2)) rfl)
          have HO2 := Lib.hid (show Only (fun x => (Value.slice (some ⟨gA, 0, none⟩) n c).ownBlock = some x ∨ (Value.slice (some ⟨gB, 0, none⟩) n d).ownBlock = some x) w ((wr.setCell ⟨gA, i * 5, none⟩ (.int .i64 (-1))).setCell ⟨gB, i * 5, none⟩ (.int .i64 (-2))) from
            (HO.out.trans (T := fun x => gA = x) (Only.of_grown (grown_set (grown_refl wr (some gA)) (i * 5) _) (fun x hx => by injection hx)) (fun x hx => .inl (.inl (by rw [← hx]; rfl)))).trans (T := fun x => gB = x) (Only.of_grown (grown_set (grown_refl _ (some gB)) (i * 5) _) (fun x hx => by injection hx)) (fun x hx => .inl (.inr (by rw [← hx]; rfl))))
          have HI := Lib.hid hlt
          clear n1 n2 n3 hlt hi HM HO HM1
          go_wp2
          go_roundw
          case rel => exact ⟨i + 1, HI.out, by go_num, HM2.out, HO2.out⟩
          case measure => have := HI.out; simp [intOf]; omega
        case neg =>
          have t1 : decide ((i : Int) < (n : Int)) = false := by simp; omega
          have t1n : decide (i < n) = false := by simp; omega
          obtain rfl : i = n := by omega
          clear hlt hi
          obtain ⟨wB, hwB⟩ : ∃ W, W = wr := ⟨_, rfl⟩
          subst hwB
          go_wp2
          go_loopw [9] (fun x9 wr => ∃ k : Nat, k ≤ 40 ∧ x9 = .int .i64 k ∧ wB = wr) (fun x9 _ => 40 - (intOf x9).toNat)
          case atStart => exact ⟨0, by omega, rfl, rfl⟩
          case round =>
            obtain ⟨k, hk, rfl, rfl⟩ := hrel
            by_cases hlt : k < 40
            case pos =>
              have t2 : decide ((k : Int) < 40) = true := by simp; omega
              have w4 : IntKind.i64.wrap ((i : Int) + (k : Int)) = ((i + k : Nat) : Int) := by rw [IntKind.wrap_i64]; omega
              have w1 : IntKind.i64.wrap (-8 - (k : Int)) = -8 - (k : Int) := by rw [IntKind.wrap_i64]; omega
              have w2 : IntKind.i64.wrap (-9000 - (k : Int)) = -9000 - (k : Int) := by rw [IntKind.wrap_i64]; omega
              have w3 : IntKind.i64.wrap ((k : Int) + 1) = ((k + 1 : Nat) : Int) := by rw [IntKind.wrap_i64]; omega
              have z1 := HM.out.cg k hlt
              have z2 := HM.out.ch k hlt
              obtain ⟨q, hq⟩ : ∃ q, q = i + k := ⟨_, rfl⟩
              rw [← hq] at w4 z1 z2
              have i3 : (q : Int) < ((i + 40 : Nat) : Int) := by omega
              have i4 : (q : Int) < ((i : Int) + 40) := by omega
              have HK := Lib.hid hlt
              clear hq hlt hk
              go_wp2
              go_roundw
              case rel => exact ⟨k + 1, HK.out, by go_num, by trivial⟩
              case measure => have := HK.out; simp [intOf]; omega
            case neg =>
              have t2 : decide ((k : Int) < 40) = false := by simp; omega
              clear hlt hk
              go_wp2
              go_loopw [10] (fun x10 wr => ∃ j : Nat, j ≤ i ∧ x10 = .int .i64 j ∧ wB = wr) (fun x10 _ => i - (intOf x10).toNat)
              case atStart => exact ⟨0, by omega, rfl, rfl⟩
              case round =>
                obtain ⟨j, hj, rfl, rfl⟩ := hrel
                by_cases hlt : j < i
                case pos =>
                  have t3 : decide ((j : Int) < (i : Int)) = true := by simp; omega
                  have t3n : decide (j < i) = true := by simp; omega
                  have i5 : (j : Int) < (i : Int) := by omega
                  have w3 : IntKind.i64.wrap ((j : Int) + 1) = ((j + 1 : Nat) : Int) := by rw [IntKind.wrap_i64]; omega
                  obtain rfl := HAA.out (by omega)
                  obtain rfl := HBB.out (by omega)
                  have z1 := HM.out.ca j hlt
                  have z2 := HM.out.cb j hlt
                  have HJ := Lib.hid hlt
                  clear hlt hj
                  go_wp2
                  go_roundw
                  case rel => exact ⟨j + 1, HJ.out, by go_num, by trivial⟩
                  case measure => have := HJ.out; simp [intOf]; omega
                case neg =>
                  have t3 : decide ((j : Int) < (i : Int)) = false := by simp; omega
                  have t3n : decide (j < i) = false := by simp; omega
                  clear hlt hj
                  go_wp2
                  go_ret
                  exact ⟨rfl, HO.out⟩
end Go.Proofs.Ytbggibdldadpiaa
