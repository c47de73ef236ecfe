/-
  Layer 3, the reference's whole numbers: plus, minus, compare.
-/
import Derived.Test.YtoaecmoihbifoaaNb
import Derived.Test.YtoaecmoihbifoaaRn
import Derived.Test.YtoaecmoihbifoaaGen
import Derived.BigQuiet
import Derived.Deep.QuietTactic
namespace Go.Proofs.Ytoaecmoihbifoaa
open Go.RowKit Go.K Go.R
set_option linter.unusedVariables false
set_option linter.unusedSimpArgs false
theorem wrap_add (x y : Nat) (h : x + y < 9223372036854775808) : IntKind.i64.wrap ((x : Int) + (y : Int)) = ((x + y : Nat) : Int) := by rw [← Int.natCast_add]; exact wrap_nat _ h
theorem minus_step (P Vl x y br dg br2 DA DB d : Nat) (h1 : Vl + P * (x + 65536 * DA) = d + P * (y + 65536 * DB + br)) (h2 : x + 65536 * br2 = dg + y + br) : Vl + P * dg + P * 65536 * DA = d + P * 65536 * (DB + br2) := by
  have h3 : P * (x + 65536 * br2) = P * (dg + y + br) := by rw [h2]
  have e1 : P * 65536 * DA = 65536 * (P * DA) := by rw [Nat.mul_assoc, Nat.mul_left_comm]
  have e2 : P * 65536 * DB = 65536 * (P * DB) := by rw [Nat.mul_assoc, Nat.mul_left_comm]
  have e3 : P * 65536 * br2 = 65536 * (P * br2) := by rw [Nat.mul_assoc, Nat.mul_left_comm]
  have e4 : P * (65536 * DA) = 65536 * (P * DA) := Nat.mul_left_comm ..
  have e5 : P * (65536 * DB) = 65536 * (P * DB) := Nat.mul_left_comm ..
  have e6 : P * (65536 * br2) = 65536 * (P * br2) := Nat.mul_left_comm ..
  simp only [Nat.mul_add, e1, e2, e3, e4, e5, e6] at *
  omega
set_option maxRecDepth 100000 in
set_option maxHeartbeats 1000000 in
theorem plus_any (va vb : Value) (a b : Nat) (w : World) (ha : Bg w va a) (hb : Bg w vb b) (hla : (digs a).length ≤ 1000) (hlb : (digs b).length ≤ 1000) :
    Calls Try.prog 64 #[va, vb] w fun r w' => ∃ v', r = .returned v' ∧ Bg w' v' (a + b) ∧ Below w.heap.size w w' := by
  obtain ⟨ad, cap, rfl, hds⟩ := ha
  obtain ⟨be, ce, rfl, hes⟩ := hb
  have HD := Lib.hid hds
  have HF := Lib.hid hes
  have HLA := Lib.hid (digs_lt a)
  have HLB := Lib.hid (digs_lt b)
  have HVA := Lib.hid (val_digs a)
  have HVB := Lib.hid (val_digs b)
  clear hds hes
  generalize digs a = A at *
  generalize digs b = B at *
  go_enter Try.func64, Try.ntmps64
  go_wp2
  go_loopw [5, 6, 7] (fun v' cc ii wr => ∃ (i c : Nat) (v : Value) (l : List Nat), v = v' ∧ ii = .int .i64 i ∧ cc = .int .i64 c ∧ i ≤ A.length + B.length + 1 ∧ (A.length < i → B.length < i → c = 0) ∧ i ≤ 1001 ∧ c ≤ 1 ∧ l.length = i ∧ (∀ x ∈ l, x < 65536) ∧ val l + 65536 ^ i * (c + (val (A.drop i) + val (B.drop i))) = a + b ∧ Out w wr v l) (fun _ _ ii _ => 2000 - (intOf ii).toNat)
  case atStart => exact ⟨0, 0, _, [], rfl, rfl, rfl, by omega, fun h => absurd h (by omega), by omega, by omega, rfl, fun x hx => (by cases hx), by rw [← HVA.out, ← HVB.out]; simp [val], Out.start w⟩
  case round =>
    obtain ⟨i, c, v, l, hv, rfl, rfl, hi, hi1, hi2, hc, hl, hlx, he, ho⟩ := hrel
    subst hv
    have HO := Lib.hid ho
    have HE := Lib.hid he
    have HX := Lib.hid hlx
    have HL := Lib.hid hl
    have HO1 := Lib.hid (show wr.ownsRow w.heap.size 3 1 v i (iv l) by rw [← HL.out]; exact HO.out.own)
    have h63 : i + 1 ≤ maxLen := by unfold maxLen; omega
    have hby : (i + 1) * 8 ≤ 140737488355328 := by omega
    clear ho he hlx hl
    by_cases hlt : i < A.length
    · have t0 : decide ((i : Int) < (A.length : Int)) = true := by simp; omega
      have i1 : (i : Int) < (A.length : Int) := by omega
      by_cases hlt2 : i < B.length
      · have t1 : decide ((i : Int) < (B.length : Int)) = true := by simp; omega
        have i2 : (i : Int) < (B.length : Int) := by omega
        obtain ⟨ba, oa, hea, z1⟩ := iv_at (HD.out.kept HO.out.bel).sl i hlt
        subst hea
        have hx := HLA.out _ (List.getElem_mem hlt)
        have HVX := Lib.hid (val_drop A i hlt)
        generalize A[i] = x at z1 hx HVX
        have hw1 := wrap_add c x (by omega)
        obtain ⟨bb, ob, heb, z2⟩ := iv_at (HF.out.kept HO.out.bel).sl i hlt2
        subst heb
        have hy := HLB.out _ (List.getElem_mem hlt2)
        have HVY := Lib.hid (val_drop B i hlt2)
        generalize B[i] = y at z2 hy HVY
        have hw2 := wrap_add (c + x) y (by omega)
        have hr := trem_nat (c + x + y) 65536
        have hq := tquo_nat (c + x + y) 65536
        simp only [Int.cast_ofNat_Int] at hr hq
        have hbs : w.heap.size ≤ (wr.alloc (.cells #[.int .i64 (((c + x + y) % 65536 : Nat) : Int)] 3)).heap.size := by have := HO.out.bel.size; simp; omega
        have HN := Lib.hid (show val (l ++ [(c + x + y) % 65536]) + 65536 ^ (i + 1) * ((c + x + y) / 65536 + (val (A.drop (i + 1)) + val (B.drop (i + 1)))) = a + b by
          rw [val_push, HL.out, Nat.pow_succ, Nat.add_assoc, carry_step, ← HE.out, HVX.out, HVY.out]
          congr 2
          omega)
        go_wp2_with (at_builtin; refine wpList_append_sl rfl _ _ 68 rfl w.heap.size 3 (.int .i64 0) 1 8 Try.underlying68 infoI (by rfl) (by decide) v i (iv l) (by rfl) (HO1.out.alloc _) (some ⟨wr.heap.size, 0, none⟩) 1 1 [.int .i64 (((c + x + y) % 65536 : Nat) : Int)] (by rfl) (fun h => by cases h) (by rfl) (sl_new _ _ _ _) (one_int _ _) h63 hby hbs ?h1)
        intro v2 w5 ho2 hg2
        have HO2 := Lib.hid (HO.out.next (m := [(c + x + y) % 65536]) (by rw [HL.out]; exact ho2) hg2)
        clear ho2 hg2
        go_wp2
        go_roundw
        case rel => exact ⟨i + 1, (c + x + y) / 65536, _, l ++ [(c + x + y) % 65536], rfl, by go_num, rfl, by omega, fun h1 h2 => by omega, by omega, by omega, by have := HL.out; simp; omega, push_lt HX.out _, HN.out, HO2.out⟩
        case measure => simp [intOf]; omega
      · have t1 : decide ((i : Int) < (B.length : Int)) = false := by simp; omega
        obtain ⟨ba, oa, hea, z1⟩ := iv_at (HD.out.kept HO.out.bel).sl i hlt
        subst hea
        have hx := HLA.out _ (List.getElem_mem hlt)
        have HVX := Lib.hid (val_drop A i hlt)
        generalize A[i] = x at z1 hx HVX
        have hw1 := wrap_add c x (by omega)
        have HVY := Lib.hid (val_drop_end B i (by omega))
        have hr := trem_nat (c + x) 65536
        have hq := tquo_nat (c + x) 65536
        simp only [Int.cast_ofNat_Int] at hr hq
        have hbs : w.heap.size ≤ (wr.alloc (.cells #[.int .i64 (((c + x) % 65536 : Nat) : Int)] 3)).heap.size := by have := HO.out.bel.size; simp; omega
        have HN := Lib.hid (show val (l ++ [(c + x) % 65536]) + 65536 ^ (i + 1) * ((c + x) / 65536 + (val (A.drop (i + 1)) + val (B.drop (i + 1)))) = a + b by
          rw [val_push, HL.out, Nat.pow_succ, Nat.add_assoc, carry_step, ← HE.out, HVX.out, HVY.out, val_drop_end B (i + 1) (by omega)]
          congr 2
          omega)
        go_wp2_with (at_builtin; refine wpList_append_sl rfl _ _ 68 rfl w.heap.size 3 (.int .i64 0) 1 8 Try.underlying68 infoI (by rfl) (by decide) v i (iv l) (by rfl) (HO1.out.alloc _) (some ⟨wr.heap.size, 0, none⟩) 1 1 [.int .i64 (((c + x) % 65536 : Nat) : Int)] (by rfl) (fun h => by cases h) (by rfl) (sl_new _ _ _ _) (one_int _ _) h63 hby hbs ?h2)
        intro v2 w5 ho2 hg2
        have HO2 := Lib.hid (HO.out.next (m := [(c + x) % 65536]) (by rw [HL.out]; exact ho2) hg2)
        clear ho2 hg2
        go_wp2
        go_roundw
        case rel => exact ⟨i + 1, (c + x) / 65536, _, l ++ [(c + x) % 65536], rfl, by go_num, rfl, by omega, fun h1 h2 => by omega, by omega, by omega, by have := HL.out; simp; omega, push_lt HX.out _, HN.out, HO2.out⟩
        case measure => simp [intOf]; omega
    · have t0 : decide ((i : Int) < (A.length : Int)) = false := by simp; omega
      by_cases hlt2 : i < B.length
      · have t1 : decide ((i : Int) < (B.length : Int)) = true := by simp; omega
        have i2 : (i : Int) < (B.length : Int) := by omega
        have HVX := Lib.hid (val_drop_end A i (by omega))
        obtain ⟨bb, ob, heb, z2⟩ := iv_at (HF.out.kept HO.out.bel).sl i hlt2
        subst heb
        have hy := HLB.out _ (List.getElem_mem hlt2)
        have HVY := Lib.hid (val_drop B i hlt2)
        generalize B[i] = y at z2 hy HVY
        have hw2 := wrap_add (c) y (by omega)
        have hr := trem_nat (c + y) 65536
        have hq := tquo_nat (c + y) 65536
        simp only [Int.cast_ofNat_Int] at hr hq
        have hbs : w.heap.size ≤ (wr.alloc (.cells #[.int .i64 (((c + y) % 65536 : Nat) : Int)] 3)).heap.size := by have := HO.out.bel.size; simp; omega
        have HN := Lib.hid (show val (l ++ [(c + y) % 65536]) + 65536 ^ (i + 1) * ((c + y) / 65536 + (val (A.drop (i + 1)) + val (B.drop (i + 1)))) = a + b by
          rw [val_push, HL.out, Nat.pow_succ, Nat.add_assoc, carry_step, ← HE.out, HVX.out, HVY.out, val_drop_end A (i + 1) (by omega)]
          congr 2
          omega)
        go_wp2_with (at_builtin; refine wpList_append_sl rfl _ _ 68 rfl w.heap.size 3 (.int .i64 0) 1 8 Try.underlying68 infoI (by rfl) (by decide) v i (iv l) (by rfl) (HO1.out.alloc _) (some ⟨wr.heap.size, 0, none⟩) 1 1 [.int .i64 (((c + y) % 65536 : Nat) : Int)] (by rfl) (fun h => by cases h) (by rfl) (sl_new _ _ _ _) (one_int _ _) h63 hby hbs ?h3)
        intro v2 w5 ho2 hg2
        have HO2 := Lib.hid (HO.out.next (m := [(c + y) % 65536]) (by rw [HL.out]; exact ho2) hg2)
        clear ho2 hg2
        go_wp2
        go_roundw
        case rel => exact ⟨i + 1, (c + y) / 65536, _, l ++ [(c + y) % 65536], rfl, by go_num, rfl, by omega, fun h1 h2 => by omega, by omega, by omega, by have := HL.out; simp; omega, push_lt HX.out _, HN.out, HO2.out⟩
        case measure => simp [intOf]; omega
      · have t1 : decide ((i : Int) < (B.length : Int)) = false := by simp; omega
        by_cases hp : 0 < c
        · have t2 : decide ((c : Int) > 0) = true := by simp; omega
          have HVX := Lib.hid (val_drop_end A i (by omega))
          have HVY := Lib.hid (val_drop_end B i (by omega))
          have hr := trem_nat (c) 65536
          have hq := tquo_nat (c) 65536
          simp only [Int.cast_ofNat_Int] at hr hq
          have hbs : w.heap.size ≤ (wr.alloc (.cells #[.int .i64 (((c) % 65536 : Nat) : Int)] 3)).heap.size := by have := HO.out.bel.size; simp; omega
          have HN := Lib.hid (show val (l ++ [(c) % 65536]) + 65536 ^ (i + 1) * ((c) / 65536 + (val (A.drop (i + 1)) + val (B.drop (i + 1)))) = a + b by
            rw [val_push, HL.out, Nat.pow_succ, Nat.add_assoc, carry_step, ← HE.out, HVX.out, HVY.out, val_drop_end A (i + 1) (by omega), val_drop_end B (i + 1) (by omega)])
          go_wp2_with (at_builtin; refine wpList_append_sl rfl _ _ 68 rfl w.heap.size 3 (.int .i64 0) 1 8 Try.underlying68 infoI (by rfl) (by decide) v i (iv l) (by rfl) (HO1.out.alloc _) (some ⟨wr.heap.size, 0, none⟩) 1 1 [.int .i64 (((c) % 65536 : Nat) : Int)] (by rfl) (fun h => by cases h) (by rfl) (sl_new _ _ _ _) (one_int _ _) h63 hby hbs ?h4)
          intro v2 w5 ho2 hg2
          have HO2 := Lib.hid (HO.out.next (m := [(c) % 65536]) (by rw [HL.out]; exact ho2) hg2)
          clear ho2 hg2
          go_wp2
          go_roundw
          case rel => exact ⟨i + 1, (c) / 65536, _, l ++ [(c) % 65536], rfl, by go_num, rfl, by omega, fun h1 h2 => by omega, by omega, by omega, by have := HL.out; simp; omega, push_lt HX.out _, HN.out, HO2.out⟩
          case measure => simp [intOf]; omega
        · have t2 : decide ((c : Int) > 0) = false := by simp; omega
          have HFF := Lib.hid (show val l = a + b by
            have h1 := HE.out
            rw [val_drop_end A i (by omega), val_drop_end B i (by omega)] at h1
            have h0 : c = 0 := by omega
            subst h0
            simpa using h1)
          obtain ⟨ad2, cap2, rfl, hds⟩ := HO.out.ds
          have HDS := Lib.hid hds
          have hll : l.length ≤ 100000 := by have := HL.out; omega
          clear hds
          go_wp2_with fail
          refine (trim_any l ad2 cap2 wr hll HX.out HDS.out).mono ?_
          rintro r1 w6 ⟨v6, rfl, hb6, rfl⟩
          have HB := Lib.hid (show Bg wr v6 (a + b) by rw [← HFF.out]; exact hb6)
          clear hb6
          go_wp2
          go_ret
          exact ⟨_, rfl, HB.out, HO.out.bel⟩
set_option maxRecDepth 100000 in
set_option maxHeartbeats 1000000 in
theorem minus_any (va vb : Value) (a b : Nat) (w : World) (ha : Bg w va a) (hb : Bg w vb b) (hab : b ≤ a) (hla : (digs a).length ≤ 1000) :
    Calls Try.prog 70 #[va, vb] w fun r w' => ∃ v', r = .returned v' ∧ Bg w' v' (a - b) ∧ Below w.heap.size w w' := by
  obtain ⟨ad, cap, rfl, hds⟩ := ha
  obtain ⟨be, ce, rfl, hes⟩ := hb
  have HD := Lib.hid hds
  have HF := Lib.hid hes
  have HLA := Lib.hid (digs_lt a)
  have HLB := Lib.hid (digs_lt b)
  have HVA := Lib.hid (val_digs a)
  have HVB := Lib.hid (val_digs b)
  have hle : (digs b).length ≤ (digs a).length := by
    apply Nat.le_of_not_lt
    intro h
    have h1 := val_cmp_len (canon_of_digs a) (canon_of_digs b) h
    rw [val_digs, val_digs] at h1
    omega
  obtain ⟨d, hd⟩ : ∃ d, a - b = d := ⟨_, rfl⟩
  have HDE := Lib.hid (show a = d + b by omega)
  rw [hd]
  clear hds hes hd hab
  generalize digs a = A at *
  generalize digs b = B at *
  go_enter Try.func70, Try.ntmps70
  go_wp2
  go_loopw [5, 6, 7, 8] (fun v' cc ii d8 wr => ∃ (i c : Nat) (v : Value) (l : List Nat), v = v' ∧ ii = .int .i64 i ∧ cc = .int .i64 c ∧ i ≤ A.length ∧ c ≤ 1 ∧ l.length = i ∧ (∀ x ∈ l, x < 65536) ∧ val l + 65536 ^ i * val (A.drop i) = d + 65536 ^ i * (val (B.drop i) + c) ∧ Out w wr v l) (fun _ _ ii _ _ => A.length - (intOf ii).toNat)
  case atStart => exact ⟨0, 0, _, [], rfl, rfl, rfl, by omega, by omega, rfl, fun x hx => (by cases hx), by simp only [val, Nat.pow_zero, Nat.one_mul, List.drop_zero, Nat.zero_add, Nat.add_zero]; rw [HVA.out, HVB.out]; exact HDE.out, Out.start w⟩
  case round =>
    obtain ⟨i, c, v, l, hv, rfl, rfl, hi, hc, hl, hlx, he, ho⟩ := hrel
    subst hv
    have HO := Lib.hid ho
    have HE := Lib.hid he
    have HX := Lib.hid hlx
    have HL := Lib.hid hl
    have HO1 := Lib.hid (show wr.ownsRow w.heap.size 3 1 v i (iv l) by rw [← HL.out]; exact HO.out.own)
    have h63 : i + 1 ≤ maxLen := by unfold maxLen; omega
    have hby : (i + 1) * 8 ≤ 140737488355328 := by omega
    clear ho he hlx hl
    by_cases hlt : i < A.length
    · have t0 : decide ((i : Int) < (A.length : Int)) = true := by simp; omega
      have i1 : (i : Int) < (A.length : Int) := by omega
      obtain ⟨ba, oa, hea, z1⟩ := iv_at (HD.out.kept HO.out.bel).sl i hlt
      subst hea
      have hx := HLA.out _ (List.getElem_mem hlt)
      have HVX := Lib.hid (val_drop A i hlt)
      generalize A[i] = x at z1 hx HVX
      by_cases hlt2 : i < B.length
      · have t1 : decide ((i : Int) < (B.length : Int)) = true := by simp; omega
        have i2 : (i : Int) < (B.length : Int) := by omega
        obtain ⟨bb, ob, heb, z2⟩ := iv_at (HF.out.kept HO.out.bel).sl i hlt2
        subst heb
        have hy := HLB.out _ (List.getElem_mem hlt2)
        have HVY := Lib.hid (val_drop B i hlt2)
        generalize B[i] = y at z2 hy HVY
        have hw1 : IntKind.i64.wrap ((x : Int) - (c : Int)) = (x : Int) - (c : Int) := by rw [IntKind.wrap_i64]; omega
        by_cases hneg : x < c + y
        · have hw2 : IntKind.i64.wrap ((x : Int) - (c : Int) - (y : Int)) = (x : Int) - (c : Int) - (y : Int) := by rw [IntKind.wrap_i64]; omega
          have t2 : decide ((x : Int) - (c : Int) - (y : Int) < 0) = true := decide_eq_true (by omega)
          have hw3 : IntKind.i64.wrap ((x : Int) - (c : Int) - (y : Int) + 65536) = (((x + 65536 - c - y) : Nat) : Int) := by rw [IntKind.wrap_i64]; omega
          have hbs : w.heap.size ≤ (wr.alloc (.cells #[.int .i64 (((x + 65536 - c - y) : Nat) : Int)] 3)).heap.size := by have := HO.out.bel.size; simp; omega
          have HN := Lib.hid (show val (l ++ [(x + 65536 - c - y)]) + 65536 ^ (i + 1) * val (A.drop (i + 1)) = d + 65536 ^ (i + 1) * (val (B.drop (i + 1)) + 1) by
            have h1 := HE.out
            rw [HVX.out, HVY.out] at h1
            rw [val_push, HL.out, Nat.pow_succ]
            exact minus_step (65536 ^ i) (val l) x y c (x + 65536 - c - y) 1 _ _ d h1 (by omega))
          have HXD := Lib.hid (show ∀ q ∈ l ++ [(x + 65536 - c - y)], q < 65536 from fun q hq => by
            rcases List.mem_append.1 hq with h | h
            · exact HX.out q h
            · rw [List.mem_singleton] at h; omega)
          go_wp2_with (at_builtin; refine wpList_append_sl rfl _ _ 68 rfl w.heap.size 3 (.int .i64 0) 1 8 Try.underlying68 infoI (by rfl) (by decide) v i (iv l) (by rfl) (HO1.out.alloc _) (some ⟨wr.heap.size, 0, none⟩) 1 1 [.int .i64 (((x + 65536 - c - y) : Nat) : Int)] (by rfl) (fun h => by cases h) (by rfl) (sl_new _ _ _ _) (one_int _ _) h63 hby hbs ?m1)
          intro v2 w5 ho2 hg2
          have HO2 := Lib.hid (HO.out.next (m := [(x + 65536 - c - y)]) (by rw [HL.out]; exact ho2) hg2)
          clear ho2 hg2
          go_wp2
          go_roundw
          case rel => exact ⟨i + 1, 1, _, l ++ [(x + 65536 - c - y)], rfl, by go_num, rfl, by omega, by omega, by have := HL.out; simp; omega, HXD.out, HN.out, HO2.out⟩
          case measure => simp [intOf]; omega
        · have hw2 : IntKind.i64.wrap ((x : Int) - (c : Int) - (y : Int)) = (((x - c - y) : Nat) : Int) := by rw [IntKind.wrap_i64]; omega
          have t2 : decide ((((x - c - y) : Nat) : Int) < 0) = false := decide_eq_false (by omega)
          have hbs : w.heap.size ≤ (wr.alloc (.cells #[.int .i64 (((x - c - y) : Nat) : Int)] 3)).heap.size := by have := HO.out.bel.size; simp; omega
          have HN := Lib.hid (show val (l ++ [(x - c - y)]) + 65536 ^ (i + 1) * val (A.drop (i + 1)) = d + 65536 ^ (i + 1) * (val (B.drop (i + 1)) + 0) by
            have h1 := HE.out
            rw [HVX.out, HVY.out] at h1
            rw [val_push, HL.out, Nat.pow_succ]
            exact minus_step (65536 ^ i) (val l) x y c (x - c - y) 0 _ _ d h1 (by omega))
          have HXD := Lib.hid (show ∀ q ∈ l ++ [(x - c - y)], q < 65536 from fun q hq => by
            rcases List.mem_append.1 hq with h | h
            · exact HX.out q h
            · rw [List.mem_singleton] at h; omega)
          go_wp2_with (at_builtin; refine wpList_append_sl rfl _ _ 68 rfl w.heap.size 3 (.int .i64 0) 1 8 Try.underlying68 infoI (by rfl) (by decide) v i (iv l) (by rfl) (HO1.out.alloc _) (some ⟨wr.heap.size, 0, none⟩) 1 1 [.int .i64 (((x - c - y) : Nat) : Int)] (by rfl) (fun h => by cases h) (by rfl) (sl_new _ _ _ _) (one_int _ _) h63 hby hbs ?m2)
          intro v2 w5 ho2 hg2
          have HO2 := Lib.hid (HO.out.next (m := [(x - c - y)]) (by rw [HL.out]; exact ho2) hg2)
          clear ho2 hg2
          go_wp2
          go_roundw
          case rel => exact ⟨i + 1, 0, _, l ++ [(x - c - y)], rfl, by go_num, rfl, by omega, by omega, by have := HL.out; simp; omega, HXD.out, HN.out, HO2.out⟩
          case measure => simp [intOf]; omega
      · have t1 : decide ((i : Int) < (B.length : Int)) = false := by simp; omega
        have HVY := Lib.hid (val_drop_end B i (by omega))
        by_cases hneg : x < c
        · have hw1 : IntKind.i64.wrap ((x : Int) - (c : Int)) = (x : Int) - (c : Int) := by rw [IntKind.wrap_i64]; omega
          have t2 : decide ((x : Int) - (c : Int) < 0) = true := decide_eq_true (by omega)
          have hw3 : IntKind.i64.wrap ((x : Int) - (c : Int) + 65536) = (((x + 65536 - c) : Nat) : Int) := by rw [IntKind.wrap_i64]; omega
          have hbs : w.heap.size ≤ (wr.alloc (.cells #[.int .i64 (((x + 65536 - c) : Nat) : Int)] 3)).heap.size := by have := HO.out.bel.size; simp; omega
          have HN := Lib.hid (show val (l ++ [(x + 65536 - c)]) + 65536 ^ (i + 1) * val (A.drop (i + 1)) = d + 65536 ^ (i + 1) * (val (B.drop (i + 1)) + 1) by
            have h1 := HE.out
            rw [HVX.out, HVY.out] at h1
            rw [val_push, HL.out, Nat.pow_succ]
            rw [val_drop_end B (i + 1) (by omega)]
            exact minus_step (65536 ^ i) (val l) x 0 c (x + 65536 - c) 1 _ 0 d (by simpa using h1) (by omega))
          have HXD := Lib.hid (show ∀ q ∈ l ++ [(x + 65536 - c)], q < 65536 from fun q hq => by
            rcases List.mem_append.1 hq with h | h
            · exact HX.out q h
            · rw [List.mem_singleton] at h; omega)
          go_wp2_with (at_builtin; refine wpList_append_sl rfl _ _ 68 rfl w.heap.size 3 (.int .i64 0) 1 8 Try.underlying68 infoI (by rfl) (by decide) v i (iv l) (by rfl) (HO1.out.alloc _) (some ⟨wr.heap.size, 0, none⟩) 1 1 [.int .i64 (((x + 65536 - c) : Nat) : Int)] (by rfl) (fun h => by cases h) (by rfl) (sl_new _ _ _ _) (one_int _ _) h63 hby hbs ?m3)
          intro v2 w5 ho2 hg2
          have HO2 := Lib.hid (HO.out.next (m := [(x + 65536 - c)]) (by rw [HL.out]; exact ho2) hg2)
          clear ho2 hg2
          go_wp2
          go_roundw
          case rel => exact ⟨i + 1, 1, _, l ++ [(x + 65536 - c)], rfl, by go_num, rfl, by omega, by omega, by have := HL.out; simp; omega, HXD.out, HN.out, HO2.out⟩
          case measure => simp [intOf]; omega
        · have hw1 : IntKind.i64.wrap ((x : Int) - (c : Int)) = (((x - c) : Nat) : Int) := by rw [IntKind.wrap_i64]; omega
          have t2 : decide ((((x - c) : Nat) : Int) < 0) = false := decide_eq_false (by omega)
          have hbs : w.heap.size ≤ (wr.alloc (.cells #[.int .i64 (((x - c) : Nat) : Int)] 3)).heap.size := by have := HO.out.bel.size; simp; omega
          have HN := Lib.hid (show val (l ++ [(x - c)]) + 65536 ^ (i + 1) * val (A.drop (i + 1)) = d + 65536 ^ (i + 1) * (val (B.drop (i + 1)) + 0) by
            have h1 := HE.out
            rw [HVX.out, HVY.out] at h1
            rw [val_push, HL.out, Nat.pow_succ]
            rw [val_drop_end B (i + 1) (by omega)]
            exact minus_step (65536 ^ i) (val l) x 0 c (x - c) 0 _ 0 d (by simpa using h1) (by omega))
          have HXD := Lib.hid (show ∀ q ∈ l ++ [(x - c)], q < 65536 from fun q hq => by
            rcases List.mem_append.1 hq with h | h
            · exact HX.out q h
            · rw [List.mem_singleton] at h; omega)
          go_wp2_with (at_builtin; refine wpList_append_sl rfl _ _ 68 rfl w.heap.size 3 (.int .i64 0) 1 8 Try.underlying68 infoI (by rfl) (by decide) v i (iv l) (by rfl) (HO1.out.alloc _) (some ⟨wr.heap.size, 0, none⟩) 1 1 [.int .i64 (((x - c) : Nat) : Int)] (by rfl) (fun h => by cases h) (by rfl) (sl_new _ _ _ _) (one_int _ _) h63 hby hbs ?m4)
          intro v2 w5 ho2 hg2
          have HO2 := Lib.hid (HO.out.next (m := [(x - c)]) (by rw [HL.out]; exact ho2) hg2)
          clear ho2 hg2
          go_wp2
          go_roundw
          case rel => exact ⟨i + 1, 0, _, l ++ [(x - c)], rfl, by go_num, rfl, by omega, by omega, by have := HL.out; simp; omega, HXD.out, HN.out, HO2.out⟩
          case measure => simp [intOf]; omega
    · have t0 : decide ((i : Int) < (A.length : Int)) = false := by simp; omega
      have HFF := Lib.hid (show val l = d by
        have h1 := HE.out
        rw [val_drop_end A i (by omega), val_drop_end B i (by omega), Nat.mul_zero, Nat.add_zero, Nat.zero_add] at h1
        have h2 := val_lt l HX.out
        rw [HL.out] at h2
        rcases (by omega : c = 0 ∨ c = 1) with h | h
        · subst h; simpa using h1
        · subst h; rw [Nat.mul_one] at h1; omega)
      obtain ⟨ad2, cap2, rfl, hds⟩ := HO.out.ds
      have HDS := Lib.hid hds
      have hll : l.length ≤ 100000 := by have := HL.out; omega
      clear hds
      go_wp2_with fail
      refine (trim_any l ad2 cap2 wr hll HX.out HDS.out).mono ?_
      rintro r1 w6 ⟨v6, rfl, hb6, rfl⟩
      have HB := Lib.hid (show Bg wr v6 d by rw [← HFF.out]; exact hb6)
      clear hb6
      go_wp2
      go_ret
      exact ⟨_, rfl, HB.out, HO.out.bel⟩
theorem icmp_lt_eq {a b : Nat} (h : a < b) : icmp a b = -1 := by unfold icmp; rw [if_pos h]
theorem icmp_gt_eq {a b : Nat} (h : b < a) : icmp a b = 1 := by unfold icmp; rw [if_neg (by omega), if_pos h]
set_option maxRecDepth 100000 in
set_option maxHeartbeats 1000000 in
theorem compare_any (va vb : Value) (a b : Nat) (w : World) (ha : Bg w va a) (hb : Bg w vb b) (hla : (digs a).length ≤ 1000) (hlb : (digs b).length ≤ 1000) :
    Calls Try.prog 69 #[va, vb] w fun r w' => r = .returned (.int .i64 (icmp a b)) ∧ Below w.heap.size w w' := by
  obtain ⟨ad, cap, rfl, hds⟩ := ha
  obtain ⟨be, ce, rfl, hes⟩ := hb
  have HD := Lib.hid hds
  have HF := Lib.hid hes
  have HLA := Lib.hid (digs_lt a)
  have HLB := Lib.hid (digs_lt b)
  have HCL := Lib.hid (fun h => val_cmp_len (canon_of_digs a) (canon_of_digs b) h)
  have HCR := Lib.hid (fun h => val_cmp_len (canon_of_digs b) (canon_of_digs a) h)
  rw [val_digs, val_digs] at HCL HCR
  have HVA := Lib.hid (val_digs a)
  have HVB := Lib.hid (val_digs b)
  clear hds hes
  generalize digs a = A at *
  generalize digs b = B at *
  rcases Nat.lt_trichotomy A.length B.length with hlen | hlen | hlen
  · have HR := Lib.hid (icmp_lt_eq (HCL.out hlen))
    have t0 : ((A.length : Int) != (B.length : Int)) = true := by rw [bne_iff_ne]; omega
    have t1 : decide ((A.length : Int) < (B.length : Int)) = true := by simp; omega
    go_enter Try.func69, Try.ntmps69
    go_wp2
    go_ret
    exact ⟨by rw [HR.out]; rfl, Below.refl _ _⟩
  · have HLN := Lib.hid hlen
    have t0 : ((A.length : Int) != (B.length : Int)) = false := by rw [hlen]; simp
    have hw0 : IntKind.i64.wrap ((A.length : Int) - 1) = (A.length : Int) - 1 := by rw [IntKind.wrap_i64]; omega
    clear hlen HCL HCR
    go_enter Try.func69, Try.ntmps69
    go_wp2
    go_loopw [5] (fun ii wr => ∃ (i : Nat), ii = .int .i64 ((i : Int) - 1) ∧ i ≤ A.length ∧ A.drop i = B.drop i ∧ Qt w wr) (fun ii _ => (intOf ii + 1).toNat)
    case atStart => exact ⟨A.length, rfl, Nat.le_refl _, by rw [List.drop_length, List.drop_eq_nil_of_le (by have := HLN.out; omega)], Qt.refl _⟩
    case round =>
      obtain ⟨i, rfl, hi, he, hq⟩ := hrel
      have HE := Lib.hid he
      have HQ := Lib.hid hq
      clear he hq
      by_cases hp : 0 < i
      · obtain ⟨j, rfl⟩ : ∃ j, i = j + 1 := ⟨i - 1, by omega⟩
        have e0 : ((j + 1 : Nat) : Int) - 1 = (j : Int) := by omega
        rw [e0]
        have t1 : decide ((j : Int) ≥ 0) = true := by simp
        have hlt : j < A.length := by omega
        have hlt2 : j < B.length := by have := HLN.out; omega
        have i1 : (j : Int) < (A.length : Int) := by omega
        have i2 : (j : Int) < (B.length : Int) := by omega
        obtain ⟨ba, oa, hea, z1⟩ := iv_at (HD.out.kept (HQ.out.below _)).sl j hlt
        subst hea
        obtain ⟨bb, ob, heb, z2⟩ := iv_at (HF.out.kept (HQ.out.below _)).sl j hlt2
        subst heb
        have hw1 : IntKind.i64.wrap ((j : Int) - 1) = (j : Int) - 1 := by rw [IntKind.wrap_i64]; omega
        have HXY := Lib.hid (show (A[j] < B[j] → a < b) ∧ (B[j] < A[j] → b < a) ∧ (A[j] = B[j] → A.drop j = B.drop j) by
          refine ⟨fun h => ?_, fun h => ?_, fun h => ?_⟩
          · have h1 := val_cmp_at HLA.out HLB.out HLN.out j hlt HE.out h
            rw [HVA.out, HVB.out] at h1; exact h1
          · have h1 := val_cmp_at HLB.out HLA.out HLN.out.symm j hlt2 HE.out.symm h
            rw [HVA.out, HVB.out] at h1; exact h1
          · rw [List.drop_eq_getElem_cons hlt, List.drop_eq_getElem_cons hlt2, h, HE.out])
        generalize A[j] = x at z1 HXY
        generalize B[j] = y at z2 HXY
        rcases Nat.lt_trichotomy x y with h | h | h
        · have t2 : decide ((x : Int) < (y : Int)) = true := by simp; omega
          have t2n : decide (x < y) = true := decide_eq_true h
          have HR := Lib.hid (icmp_lt_eq (HXY.out.1 h))
          clear h
          go_wp2
          go_quiet (fail)
          go_wp2
          go_ret
          exact ⟨by rw [HR.out]; rfl, (HQ.out.trans ⟨_, rfl⟩).below _⟩
        · have HEE := Lib.hid (HXY.out.2.2 h)
          have t2n : decide (x < y) = false := decide_eq_false (by omega)
          have t3n : decide (y < x) = false := decide_eq_false (by omega)
          have t2 : decide ((x : Int) < (y : Int)) = false := by simp; omega
          have t3 : decide ((x : Int) > (y : Int)) = false := by simp; omega
          clear h
          go_wp2
          go_quiet (fail)
          go_wp2
          go_quiet (fail)
          go_wp2
          go_roundw
          case rel => exact ⟨j, by go_num, by omega, HEE.out, (HQ.out.trans ⟨_, rfl⟩).trans ⟨_, rfl⟩⟩
          case measure => simp [intOf]
        · have t2 : decide ((x : Int) < (y : Int)) = false := by simp; omega
          have t3 : decide ((x : Int) > (y : Int)) = true := by simp; omega
          have t2n : decide (x < y) = false := decide_eq_false (by omega)
          have t3n : decide (y < x) = true := decide_eq_true h
          have HR := Lib.hid (icmp_gt_eq (HXY.out.2.1 h))
          clear h
          go_wp2
          go_quiet (fail)
          go_wp2
          go_quiet (fail)
          go_wp2
          go_ret
          exact ⟨by rw [HR.out]; rfl, ((HQ.out.trans ⟨_, rfl⟩).trans ⟨_, rfl⟩).below _⟩
      · have h0 : i = 0 := by omega
        subst h0
        have t1 : decide (((0 : Nat) : Int) - 1 ≥ 0) = false := by decide
        have HAB := Lib.hid (show icmp a b = 0 by
          have h := HE.out
          rw [List.drop_zero, List.drop_zero] at h
          apply icmp_eq.2
          rw [← HVA.out, ← HVB.out, h])
        go_wp2
        go_ret
        exact ⟨by rw [HAB.out]; rfl, HQ.out.below _⟩
  · have HR := Lib.hid (icmp_gt_eq (HCR.out hlen))
    have t0 : ((A.length : Int) != (B.length : Int)) = true := by rw [bne_iff_ne]; omega
    have t1 : decide ((A.length : Int) < (B.length : Int)) = false := by simp; omega
    go_enter Try.func69, Try.ntmps69
    go_wp2
    go_ret
    exact ⟨by rw [HR.out]; rfl, Below.refl _ _⟩
end Go.Proofs.Ytoaecmoihbifoaa
