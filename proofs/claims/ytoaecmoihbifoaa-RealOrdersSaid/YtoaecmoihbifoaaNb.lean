/-
  Layer 3, the reference's whole numbers: number, times, shift.
-/
import Derived.Test.YtoaecmoihbifoaaNa
namespace Go.Proofs.Ytoaecmoihbifoaa
open Go.RowKit Go.K Go.R
set_option linter.unusedVariables false
set_option linter.unusedSimpArgs false

/-- What has been written so far. -/
structure Out (w : World) (W : World) (v : Value) (l : List Nat) : Prop where
  own : W.ownsRow w.heap.size 3 1 v l.length (iv l)
  bel : Below w.heap.size w W
theorem Out.start (w : World) : Out w w (.slice none 0 0) [] := ⟨World.ownsRow_nil _ _ _ _, Below.refl _ _⟩
theorem Out.ds {w W : World} {v : Value} {l : List Nat} (h : Out w W v l) : ∃ ad cap, v = .slice ad l.length cap ∧ Ds W ad cap l := ds_of_owns h.own rfl
theorem Out.next {w W W' : World} {v v' : Value} {l m : List Nat} {X : Obj} (h : Out w W v l) (ho : W'.ownsRow w.heap.size 3 1 v' (l.length + m.length) (iv l ++ iv m)) (hg : (W.alloc X).grownBy W' v.ownBlock) : Out w W' v' (l ++ m) := by
  refine ⟨by rw [List.length_append, iv_append]; exact ho, ?_⟩
  exact (h.bel.alloc h.bel.size _).grown hg (by have := h.bel.size; simp; omega) (fun k hk => (h.own.lt k hk).1)
theorem Out.next' {w W W' : World} {v v' : Value} {l m : List Nat} (h : Out w W v l) (ho : W'.ownsRow w.heap.size 3 1 v' (l.length + m.length) (iv l ++ iv m)) (hg : W.grownBy W' v.ownBlock) : Out w W' v' (l ++ m) := by
  refine ⟨by rw [List.length_append, iv_append]; exact ho, ?_⟩
  exact h.bel.grown hg h.bel.size (fun k hk => (h.own.lt k hk).1)
set_option maxRecDepth 100000 in
theorem number_any (n : Nat) (w : World) (hn : n < 4611686018427387904) :
    Calls Try.prog 57 #[.int .i64 (n : Int)] w fun r w' => ∃ v, r = .returned v ∧ Bg w' v n ∧ Below w.heap.size w w' := by
  go_enter Try.func57, Try.ntmps57
  go_wp2
  go_loopw [0, 3] (fun i v' wr => ∃ (m : Nat) (v : Value) (l : List Nat), v = v' ∧ m ≤ n ∧ i = .int .i64 m ∧ l ++ digs m = digs n ∧ l.length ≤ 60 ∧ m < 65536 ^ (60 - l.length) ∧ Out w wr v l) (fun i _ _ => (intOf i).toNat)
  case atStart => exact ⟨n, _, [], rfl, Nat.le_refl _, rfl, rfl, by decide, by simp only [List.length_nil]; exact Nat.lt_of_lt_of_le hn (by decide), Out.start w⟩
  case round =>
    obtain ⟨m, v, l, hv, hm, rfl, he, hl, hml, ho⟩ := hrel
    subst hv
    have HO := Lib.hid ho
    have HE := Lib.hid he
    have HML := Lib.hid hml
    clear ho he hml
    by_cases hp : 0 < m
    · have t0 : decide ((m : Int) > 0) = true := by simp; omega
      have hr := trem_nat m 65536
      have hq := tquo_nat m 65536
      simp only [Int.cast_ofNat_Int] at hr hq
      have hl1 : l.length < 60 := by
        apply Nat.lt_of_not_le
        intro h
        have := HML.out
        rw [show 60 - l.length = 0 by omega] at this
        omega
      have h63 : l.length + 1 ≤ maxLen := by unfold maxLen; omega
      have hby : (l.length + 1) * 8 ≤ 140737488355328 := by omega
      have hbs : w.heap.size ≤ (wr.alloc (.cells #[.int .i64 ((m % 65536 : Nat) : Int)] 3)).heap.size := by have := HO.out.bel.size; simp; omega
      have HN := Lib.hid (show (l ++ [m % 65536]) ++ digs (m / 65536) = digs n by rw [List.append_assoc, ← HE.out, digs_pos hp]; rfl)
      have HL := Lib.hid (show m / 65536 < 65536 ^ (60 - (l ++ [m % 65536]).length) by
        have := HML.out
        rw [show 60 - l.length = (60 - (l.length + 1)) + 1 by omega, Nat.pow_succ] at this
        rw [show (l ++ [m % 65536]).length = l.length + 1 by simp]
        clear hr hq
        omega)
      go_wp2_with (at_builtin; refine wpList_append_sl rfl _ _ 68 rfl w.heap.size 3 (.int .i64 0) 1 8 Try.underlying68 infoI (by rfl) (by decide) v l.length (iv l) (by rfl) (HO.out.own.alloc _) (some ⟨wr.heap.size, 0, none⟩) 1 1 [.int .i64 ((m % 65536 : Nat) : Int)] (by rfl) (fun h => by cases h) (by rfl) (sl_new _ _ _ _) (one_int _ _) h63 hby hbs ?hi)
      intro v2 w5 ho2 hg2
      have HO2 := Lib.hid (HO.out.next (m := [m % 65536]) ho2 hg2)
      clear ho2 hg2
      go_wp2
      go_roundw
      case rel => exact ⟨m / 65536, _, l ++ [m % 65536], rfl, by omega, by go_num, HN.out, by simp; omega, HL.out, HO2.out⟩
      case measure => simp [intOf]; omega
    · have t0 : decide ((m : Int) > 0) = false := by simp; omega
      have hm0 : m = 0 := by omega
      subst hm0
      have HF := Lib.hid (show l = digs n by have := HE.out; rw [digs_zero, List.append_nil] at this; exact this)
      obtain ⟨ad, cap, rfl, hds⟩ := HO.out.ds
      have HB := Lib.hid (show Bg wr (.slice ad l.length cap) n from ⟨ad, cap, by rw [← HF.out], by rw [← HF.out]; exact hds⟩)
      clear hds
      go_wp2
      go_ret
      exact ⟨_, rfl, HB.out, HO.out.bel⟩
theorem wrap_nat (x : Nat) (h : x < 9223372036854775808) : IntKind.i64.wrap ((x : Nat) : Int) = (x : Int) := by rw [IntKind.wrap_i64]; omega
theorem wrap_mul (x k : Nat) (h : x * k < 9223372036854775808) : IntKind.i64.wrap ((x : Int) * (k : Int)) = ((x * k : Nat) : Int) := by rw [← Int.natCast_mul]; exact wrap_nat _ h
theorem carry_step (P s M : Nat) : P * (s % 65536) + P * 65536 * (s / 65536 + M) = P * (s + 65536 * M) := by
  have h : s % 65536 + 65536 * (s / 65536) = s := Nat.mod_add_div s 65536
  rw [Nat.mul_assoc, ← Nat.mul_add]
  congr 1
  omega
theorem push_lt {l : List Nat} (h : ∀ x ∈ l, x < 65536) (s : Nat) : ∀ x ∈ l ++ [s % 65536], x < 65536 := fun x hx => by
  rcases List.mem_append.1 hx with h1 | h1
  · exact h x h1
  · rw [List.mem_singleton] at h1; omega
set_option maxRecDepth 100000 in
theorem times_any (v : Value) (n k : Nat) (w : World) (hv : Bg w v n) (hk : k < 65536) (hn : (digs n).length ≤ 1000) :
    Calls Try.prog 76 #[v, .int .i64 (k : Int)] w fun r w' => ∃ v', r = .returned v' ∧ Bg w' v' (n * k) ∧ Below w.heap.size w w' := by
  obtain ⟨ad, cap, rfl, hds⟩ := hv
  have HD := Lib.hid hds
  have HLT := Lib.hid (digs_lt n)
  have HVD := Lib.hid (val_digs n)
  have hlen := hn
  clear hn
  clear hds
  generalize digs n = D at *
  go_enter Try.func76, Try.ntmps76
  go_wp2
  go_loopw [5, 6, 7] (fun v' cc ii wr => ∃ (i c : Nat) (v : Value) (l : List Nat), v = v' ∧ ii = .int .i64 i ∧ cc = .int .i64 c ∧ i ≤ D.length + 1 ∧ (i = D.length + 1 → c = 0) ∧ c ≤ 65535 ∧ l.length = i ∧ (∀ x ∈ l, x < 65536) ∧ val l + 65536 ^ i * (c + k * val (D.drop i)) = n * k ∧ Out w wr v l) (fun _ _ ii _ => D.length + 1 - (intOf ii).toNat)
  case atStart => exact ⟨0, 0, _, [], rfl, rfl, rfl, by omega, fun h => absurd h (by omega), by omega, rfl, fun x hx => (by cases hx), by rw [← HVD.out]; simp [val, Nat.mul_comm], Out.start w⟩
  case round =>
    obtain ⟨i, c, v, l, hv, rfl, rfl, hi, hi1, hc, hl, hlx, he, ho⟩ := hrel
    subst hv
    have HO := Lib.hid ho
    have HE := Lib.hid he
    have HX := Lib.hid hlx
    have HL := Lib.hid hl
    clear ho he hlx hl
    by_cases hlt : i < D.length
    · have t0 : decide ((i : Int) < (D.length : Int)) = true := by simp; omega
      have i1 : (i : Int) < (D.length : Int) := by omega
      obtain ⟨b, o, hea, z1⟩ := iv_at (HD.out.kept HO.out.bel).sl i hlt
      subst hea
      have hx := HLT.out _ (List.getElem_mem hlt)
      have HVX := Lib.hid (val_drop D i hlt)
      generalize D[i] = x at z1 hx HVX
      have hxk : x * k ≤ 65535 * 65535 := Nat.mul_le_mul (by omega) (by omega)
      have hw1 := wrap_mul x k (by omega)
      generalize hs : x * k = y at hw1 hxk
      have hw2 : IntKind.i64.wrap ((c : Int) + (y : Int)) = ((c + y : Nat) : Int) := by rw [IntKind.wrap_i64]; omega
      have hr := trem_nat (c + y) 65536
      have hq := tquo_nat (c + y) 65536
      simp only [Int.cast_ofNat_Int] at hr hq
      have h63 : i + 1 ≤ maxLen := by unfold maxLen; omega
      have hby : (i + 1) * 8 ≤ 140737488355328 := by omega
      have hbs : w.heap.size ≤ (wr.alloc (.cells #[.int .i64 (((c + y) % 65536 : Nat) : Int)] 3)).heap.size := by have := HO.out.bel.size; simp; omega
      have HN := Lib.hid (show val (l ++ [(c + y) % 65536]) + 65536 ^ (i + 1) * ((c + y) / 65536 + k * val (D.drop (i + 1))) = n * k by
        rw [val_push, HL.out, Nat.pow_succ, Nat.add_assoc, carry_step, ← HE.out, HVX.out, ← hs]
        congr 2
        rw [Nat.mul_add, Nat.mul_comm x k, Nat.mul_left_comm 65536 k, Nat.add_assoc])
      have HO1 := Lib.hid (show wr.ownsRow w.heap.size 3 1 v i (iv l) by rw [← HL.out]; exact HO.out.own)
      go_wp2_with (at_builtin; refine wpList_append_sl rfl _ _ 68 rfl w.heap.size 3 (.int .i64 0) 1 8 Try.underlying68 infoI (by rfl) (by decide) v i (iv l) (by rfl) (HO1.out.alloc _) (some ⟨wr.heap.size, 0, none⟩) 1 1 [.int .i64 (((c + y) % 65536 : Nat) : Int)] (by rfl) (fun h => by cases h) (by rfl) (sl_new _ _ _ _) (one_int _ _) h63 hby hbs ?hi)
      intro v2 w5 ho2 hg2
      have HO2 := Lib.hid (HO.out.next (m := [(c + y) % 65536]) (by rw [HL.out]; exact ho2) hg2)
      clear ho2 hg2
      go_wp2
      go_roundw
      case rel => exact ⟨i + 1, (c + y) / 65536, _, l ++ [(c + y) % 65536], rfl, by go_num, rfl, by omega, fun h => absurd h (by omega), by omega, by have := HL.out; simp; omega, push_lt HX.out _, HN.out, HO2.out⟩
      case measure => simp [intOf]; omega
    · have t0 : decide ((i : Int) < (D.length : Int)) = false := by simp; omega
      have HV0 := Lib.hid (val_drop_end D i (by omega))
      by_cases hp : 0 < c
      · have t1 : decide ((c : Int) > 0) = true := by simp; omega
        have hr := trem_nat c 65536
        have hq := tquo_nat c 65536
        simp only [Int.cast_ofNat_Int] at hr hq
        have h63 : i + 1 ≤ maxLen := by unfold maxLen; omega
        have hby : (i + 1) * 8 ≤ 140737488355328 := by omega
        have hbs : w.heap.size ≤ (wr.alloc (.cells #[.int .i64 ((c % 65536 : Nat) : Int)] 3)).heap.size := by have := HO.out.bel.size; simp; omega
        have HN := Lib.hid (show val (l ++ [c % 65536]) + 65536 ^ (i + 1) * (c / 65536 + k * val (D.drop (i + 1))) = n * k by
          rw [val_push, HL.out, Nat.pow_succ, Nat.add_assoc, carry_step, ← HE.out, HV0.out, val_drop_end D (i + 1) (by omega), Nat.mul_zero, Nat.mul_zero])
        have HO1 := Lib.hid (show wr.ownsRow w.heap.size 3 1 v i (iv l) by rw [← HL.out]; exact HO.out.own)
        go_wp2_with (at_builtin; refine wpList_append_sl rfl _ _ 68 rfl w.heap.size 3 (.int .i64 0) 1 8 Try.underlying68 infoI (by rfl) (by decide) v i (iv l) (by rfl) (HO1.out.alloc _) (some ⟨wr.heap.size, 0, none⟩) 1 1 [.int .i64 ((c % 65536 : Nat) : Int)] (by rfl) (fun h => by cases h) (by rfl) (sl_new _ _ _ _) (one_int _ _) h63 hby hbs ?hj)
        intro v2 w5 ho2 hg2
        have HO2 := Lib.hid (HO.out.next (m := [c % 65536]) (by rw [HL.out]; exact ho2) hg2)
        clear ho2 hg2
        go_wp2
        go_roundw
        case rel => exact ⟨i + 1, c / 65536, _, l ++ [c % 65536], rfl, by go_num, rfl, by omega, fun h => by omega, by omega, by have := HL.out; simp; omega, push_lt HX.out _, HN.out, HO2.out⟩
        case measure => simp [intOf]; omega
      · have t1 : decide ((c : Int) > 0) = false := by simp; omega
        have HF := Lib.hid (show val l = n * k by
          have h1 := HE.out
          rw [HV0.out] at h1
          have h0 : c = 0 := by omega
          subst h0
          simpa using h1)
        obtain ⟨ad2, cap2, rfl, hds⟩ := HO.out.ds
        have HDS := Lib.hid hds
        have hll : l.length ≤ 100000 := by have := HL.out; omega
        clear hds
        go_wp2_with fail
        refine (trim_any l ad2 cap2 wr hll HX.out HDS.out).mono ?_
        rintro r1 w6 ⟨v6, rfl, hb6, rfl⟩
        have HB := Lib.hid (show Bg wr v6 (n * k) by rw [← HF.out]; exact hb6)
        clear hb6
        go_wp2
        go_ret
        exact ⟨_, rfl, HB.out, HO.out.bel⟩
theorem pow_split (s : Nat) : 65536 ^ (s / 16) * 2 ^ (s % 16) = 2 ^ s := by
  have h : (65536 : Nat) = 2 ^ 16 := by decide
  rw [h, ← Nat.pow_mul, ← Nat.pow_add]
  congr 1
  omega
theorem pow16 (s : Nat) : 2 ^ (s % 16) < 65536 := by
  have h : (2 : Nat) ^ (s % 16) < 2 ^ 16 := Nat.pow_lt_pow_right (by decide) (by omega)
  exact h
theorem wrap64_pow (s : Nat) : wrap64 ((2 : Int) ^ (s % 16)) = ((2 ^ (s % 16) : Nat) : Int) := by
  have h := pow16 s
  have e : ((2 : Int) ^ (s % 16)) = ((2 ^ (s % 16) : Nat) : Int) := by simp
  rw [e]
  generalize 2 ^ (s % 16) = k at h
  unfold wrap64
  omega
theorem Ds.cap0 {W : World} {ad : Option Addr} {cap : Nat} {l : List Nat} (h : Ds W ad cap l) : ad = none → l.length = 0 ∧ cap = 0 := fun h0 => by
  have := h.nil h0
  have := h.le
  omega
set_option maxRecDepth 100000 in
theorem shift_any (v : Value) (n s : Nat) (w : World) (hv : Bg w v n) (hs : s ≤ 4000) (hn : (digs n).length ≤ 500) :
    Calls Try.prog 56 #[v, .int .i64 (s : Int)] w fun r w' => ∃ v', r = .returned v' ∧ Bg w' v' (n * 2 ^ s) ∧ Below w.heap.size w w' := by
  have HV := Lib.hid hv
  have HT := Lib.hid (fun W (h : Below w.heap.size w W) => times_any v n (2 ^ (s % 16)) W (HV.out.kept h) (pow16 s) (by omega))
  have hsh := wrap64_pow s
  have hpw := pow16 s
  have hq := tquo_nat s 16
  have hr := trem_nat s 16
  simp only [Int.cast_ofNat_Int] at hq hr
  have hm : s % 16 < 16 := Nat.mod_lt _ (by decide)
  have HSP := Lib.hid (pow_split s)
  have hnk : (digs (n * 2 ^ (s % 16))).length ≤ 501 := by
    refine Nat.le_trans (digs_len (k := (digs n).length + 1) ?_) (by omega)
    have h1 := val_lt (digs n) (digs_lt n)
    rw [val_digs] at h1
    rw [Nat.pow_succ]
    exact Nat.mul_lt_mul'' h1 hpw
  generalize 2 ^ (s % 16) = k at HT hsh hpw HSP hnk
  clear hv hn
  go_enter Try.func56, Try.ntmps56
  go_wp2
  go_loopw [5, 6] (fun v' ii wr => ∃ (i : Nat) (v : Value), v = v' ∧ ii = .int .i64 i ∧ i ≤ s / 16 ∧ Out w wr v (List.replicate i 0)) (fun _ ii _ => s / 16 - (intOf ii).toNat)
  case atStart => exact ⟨0, _, rfl, rfl, Nat.zero_le _, Out.start w⟩
  case round =>
    obtain ⟨i, v1, hv, rfl, hi, ho⟩ := hrel
    subst hv
    have HO := Lib.hid ho
    clear ho
    by_cases hlt : i < s / 16
    · have t0 : decide ((i : Int) < ((s / 16 : Nat) : Int)) = true := decide_eq_true (by omega)
      have h63 : i + 1 ≤ maxLen := by unfold maxLen; omega
      have hby : (i + 1) * 8 ≤ 140737488355328 := by omega
      have hbs : w.heap.size ≤ (wr.alloc (.cells #[.int .i64 0] 3)).heap.size := by have := HO.out.bel.size; simp; omega
      have HO1 := Lib.hid (show wr.ownsRow w.heap.size 3 1 v1 i (iv (List.replicate i 0)) by have := HO.out.own; rw [List.length_replicate] at this; exact this)
      go_wp2_with (at_builtin; refine wpList_append_sl rfl _ _ 68 rfl w.heap.size 3 (.int .i64 0) 1 8 Try.underlying68 infoI (by rfl) (by decide) v1 i (iv (List.replicate i 0)) (by rfl) (HO1.out.alloc _) (some ⟨wr.heap.size, 0, none⟩) 1 1 [.int .i64 0] (by rfl) (fun h => by cases h) (by rfl) (sl_new _ _ _ _) (one_int _ _) h63 hby hbs ?hi)
      intro v2 w5 ho2 hg2
      have HO2 := Lib.hid (show Out w w5 v2 (List.replicate (i + 1) 0) by
        have h := HO.out.next (m := [0]) (by rw [List.length_replicate]; exact ho2) hg2
        rw [List.replicate_succ']; exact h)
      clear ho2 hg2
      go_wp2
      go_roundw
      case rel => exact ⟨i + 1, _, rfl, by go_num, by omega, HO2.out⟩
      case measure => simp [intOf]; omega
    · have t0 : decide ((i : Int) < ((s / 16 : Nat) : Int)) = false := decide_eq_false (by omega)
      have HIE := Lib.hid (show i = s / 16 by omega)
      have hw1 := wrap_nat (s % 16) (by omega)
      go_wp2_with fail
      refine (HT.out _ HO.out.bel).mono ?_
      rintro r1 w6 ⟨v6, rfl, hb6, hbel⟩
      obtain ⟨ad2, cap2, rfl, hds⟩ := hb6
      have HDS := Lib.hid hds
      have HB6 := Lib.hid (HO.out.bel.trans (hbel.mono HO.out.bel.size))
      have HO1 := Lib.hid (show w6.ownsRow w.heap.size 3 1 v1 i (iv (List.replicate i 0)) from owns_below (B := 0) (show wr.ownsRow w.heap.size 3 1 v1 i (iv (List.replicate i 0)) by have := HO.out.own; rw [List.length_replicate] at this; exact this) hbel)
      clear hds hbel
      have h63 : i + (digs (n * k)).length ≤ maxLen := by unfold maxLen; omega
      have hby : (i + (digs (n * k)).length) * 8 ≤ 140737488355328 := by omega
      have HVD := Lib.hid (val_digs (n * k))
      have HLT := Lib.hid (digs_lt (n * k))
      generalize digs (n * k) = D at *
      go_wp2_with (at_builtin; refine wpList_append_sl rfl _ _ 68 rfl w.heap.size 3 (.int .i64 0) 1 8 Try.underlying68 infoI (by rfl) (by decide) v1 i (iv (List.replicate i 0)) (by rfl) HO1.out ad2 D.length cap2 (iv D) (by rfl) HDS.out.cap0 (by rw [iv_length]; omega) HDS.out.sl (oneCell_iv D) h63 hby HB6.out.size ?hj)
      intro v2 w7 ho2 hg2
      have HO2 := Lib.hid (show Out w w7 v2 (List.replicate i 0 ++ D) from Out.next' (W := w6) (v := v1) ⟨by rw [List.length_replicate]; exact HO1.out, HB6.out⟩ (by rw [List.length_replicate]; exact ho2) hg2)
      clear ho2 hg2
      obtain ⟨ad3, cap3, rfl, hds3⟩ := HO2.out.ds
      have HD3 := Lib.hid hds3
      clear hds3
      have HVV := Lib.hid (show val (List.replicate i 0 ++ D) = n * 2 ^ s by
        rw [val_append, val_zeros, HVD.out, List.length_replicate, HIE.out, Nat.zero_add, ← HSP.out]
        simp only [Nat.mul_left_comm])
      have HLL := Lib.hid (show ∀ x ∈ List.replicate i 0 ++ D, x < 65536 from fun x hx => by
        rcases List.mem_append.1 hx with h | h
        · rw [(List.mem_replicate.1 h).2]; decide
        · exact HLT.out x h)
      have hlen : (List.replicate i 0 ++ D).length ≤ 100000 := by simp; omega
      generalize List.replicate i 0 ++ D = L at *
      go_wp2_with fail
      refine (trim_any L ad3 cap3 w7 hlen HLL.out HD3.out).mono ?_
      rintro r2 w8 ⟨v8, rfl, hb8, rfl⟩
      rw [HVV.out] at hb8
      have HB8 := Lib.hid hb8
      clear hb8
      go_wp2
      go_ret
      exact ⟨_, rfl, HB8.out, HO2.out.bel⟩
end Go.Proofs.Ytoaecmoihbifoaa
