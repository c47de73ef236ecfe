/-
  Layer 20: what entries hold, what accounts get.
-/
import Derived.Test.YtiafhgcnjgpeaaaWh
namespace Go.Proofs.Ytiafhgcnjgpeaaa
open Go.RowKit Go.K
set_option linter.unusedVariables false
set_option linter.unusedSimpArgs false

/-- How often an item comes to an account. -/
def nOf : List Gi → Int → Int → Int
  | [], _, _ => 0
  | g :: l, a, i => (if g.to = a ∧ g.item = i ∧ i ≠ 0 then 1 else 0) + nOf l a i
/-- How many coins come to an account, uncut. -/
def sOf : List Gi → Int → Int
  | [], _ => 0
  | g :: l, a => (if g.to = a then g.coins else 0) + sOf l a
def entG (e : Ent) : Gi := ⟨e.acc, e.item, e.coins⟩
theorem nOf_append (l m : List Gi) (a i : Int) : nOf (l ++ m) a i = nOf l a i + nOf m a i := by
  induction l with
  | nil => simp [nOf]
  | cons g l ih => simp only [List.cons_append, nOf, ih]; omega
theorem sOf_append (l m : List Gi) (a : Int) : sOf (l ++ m) a = sOf l a + sOf m a := by
  induction l with
  | nil => simp [sOf]
  | cons g l ih => simp only [List.cons_append, sOf, ih]; omega
theorem nOf_bound (l : List Gi) (a i : Int) : 0 ≤ nOf l a i ∧ nOf l a i ≤ l.length := by
  induction l with
  | nil => simp [nOf]
  | cons g l ih =>
    simp only [nOf, List.length_cons]
    split <;> omega
theorem nOf_gV (e : Ent) (a i : Int) : nOf (gV e e.acc) a i = nOf [entG e] a i := by
  unfold gV entG
  by_cases h1 : e.item = 0 <;> by_cases h2 : e.coins = 0 <;> simp only [h1, h2, ne_eq, not_true_eq_false, not_false_eq_true, if_true, if_false, List.append_nil, List.nil_append, List.cons_append, nOf]
  all_goals (repeat' split) <;> omega
theorem sOf_gV (e : Ent) (a : Int) : sOf (gV e e.acc) a = sOf [entG e] a := by
  unfold gV entG
  by_cases h1 : e.item = 0 <;> by_cases h2 : e.coins = 0 <;> simp only [h1, h2, ne_eq, not_true_eq_false, not_false_eq_true, if_true, if_false, List.append_nil, List.nil_append, List.cons_append, sOf]
  all_goals (repeat' split) <;> omega
theorem nOf_backV (es : List Ent) (a i : Int) : nOf (backV es) a i = nOf (es.map entG) a i := by
  induction es with
  | nil => rfl
  | cons e l ih =>
    show nOf (gV e e.acc ++ backV l) a i = nOf ([entG e] ++ l.map entG) a i
    rw [nOf_append, nOf_append, ih, nOf_gV]
theorem sOf_backV (es : List Ent) (a : Int) : sOf (backV es) a = sOf (es.map entG) a := by
  induction es with
  | nil => rfl
  | cons e l ih =>
    show sOf (gV e e.acc ++ backV l) a = sOf ([entG e] ++ l.map entG) a
    rw [sOf_append, sOf_append, ih, sOf_gV]
/-- How many gifts bring an item. -/
def iOf : List Gi → Int
  | [] => 0
  | g :: l => (if g.item ≠ 0 then 1 else 0) + iOf l
theorem iOf_append (l m : List Gi) : iOf (l ++ m) = iOf l + iOf m := by
  induction l with
  | nil => simp [iOf]
  | cons g l ih => simp only [List.cons_append, iOf, ih]; omega
theorem iOf_bound (l : List Gi) : 0 ≤ iOf l ∧ iOf l ≤ l.length := by
  induction l with
  | nil => simp [iOf]
  | cons g l ih =>
    simp only [iOf, List.length_cons]
    split <;> omega
theorem iOf_backV (es : List Ent) : iOf (backV es) = iOf (es.map entG) := by
  induction es with
  | nil => rfl
  | cons e l ih =>
    show iOf (gV e e.acc ++ backV l) = iOf ([entG e] ++ l.map entG)
    rw [iOf_append, iOf_append, ih]
    congr 1
    unfold gV entG
    by_cases h1 : e.item = 0 <;> by_cases h2 : e.coins = 0 <;> simp [h1, h2, iOf]
/-- Each gift brings something, and one thing alone. -/
def wholeP (l : List Gi) : Prop := ∀ g ∈ l, (g.item = 0 ∧ g.coins ≠ 0) ∨ (g.item ≠ 0 ∧ g.coins = 0)
theorem whole_gV (e : Ent) (t : Int) : wholeP (gV e t) := by
  intro g hg
  unfold gV at hg
  by_cases h1 : e.item = 0 <;> by_cases h2 : e.coins = 0 <;> simp [h1, h2] at hg
  · subst hg; exact .inl ⟨rfl, h2⟩
  · subst hg; exact .inr ⟨h1, rfl⟩
  · rcases hg with rfl | rfl
    · exact .inr ⟨h1, rfl⟩
    · exact .inl ⟨rfl, h2⟩
theorem whole_flat (es : List Ent) (f : Ent → Int) : wholeP (es.flatMap fun e => gV e (f e)) := by
  intro g hg
  obtain ⟨e, _, he⟩ := List.mem_flatMap.1 hg
  exact whole_gV e _ g he
theorem whole_backV (es : List Ent) : wholeP (backV es) := whole_flat es _
theorem take_succ_gi (l : List Gi) (k : Nat) (h : k < l.length) : l.take (k + 1) = l.take k ++ [l[k]] := List.take_succ_eq_append_getElem h
theorem nOf_succ (l : List Gi) (k : Nat) (h : k < l.length) (a i : Int) : nOf (l.take (k + 1)) a i = nOf (l.take k) a i + (if l[k].to = a ∧ l[k].item = i ∧ i ≠ 0 then 1 else 0) := by
  rw [take_succ_gi l k h, nOf_append]; simp [nOf]
theorem sOf_succ (l : List Gi) (k : Nat) (h : k < l.length) (a : Int) : sOf (l.take (k + 1)) a = sOf (l.take k) a + (if l[k].to = a then l[k].coins else 0) := by
  rw [take_succ_gi l k h, sOf_append]; simp [sOf]
theorem iOf_succ (l : List Gi) (k : Nat) (h : k < l.length) : iOf (l.take (k + 1)) = iOf (l.take k) + (if l[k].item ≠ 0 then 1 else 0) := by
  rw [take_succ_gi l k h, iOf_append]; simp [iOf]
theorem wrap_sum (s c : Int) : IntKind.u64.wrap (IntKind.u64.wrap s + c) = IntKind.u64.wrap (s + c) := by
  simp only [IntKind.wrap_u64]; omega
theorem whole_true (a : Option Addr) (c : Nat) (l : List Gi) (w : World) (hl : l.length ≤ 5864062014634) (ha : Sl w a (gFlat l)) (hw : wholeP l) :
    Calls Try.prog 31 #[.slice a l.length c] w fun e w' => e = .returned (.bool true) ∧ Qt w w' := by
  have HA := Lib.hid ha
  have HW := Lib.hid hw
  clear ha hw
  go_enter Try.func31, Try.ntmps31
  go_wp2
  go_loopw [3] (fun i wr => ∃ k : Nat, k ≤ l.length ∧ i = .int .i64 k ∧ Qt w wr) (fun i _ => l.length - (intOf i).toNat)
  case atStart => exact ⟨0, by omega, rfl, Qt.refl _⟩
  case round =>
    obtain ⟨k, hk, rfl, hq⟩ := hrel
    have HQ := Lib.hid hq
    clear hq
    by_cases hlt : k < l.length
    · have hbk : decide ((k : Int) < (l.length : Int)) = true := by simp; omega
      obtain ⟨b1, o1, rfl, x0, x1, x2⟩ := gift_at (HQ.out.sl HA.out) k hlt
      have i1 : (k : Int) < (l.length : Int) := by omega
      have hgk := HW.out l[k] (List.getElem_mem hlt)
      generalize l[k].to = gt at *
      generalize l[k].item = gi at *
      generalize l[k].coins = gc at *
      have HX := Lib.hid (show ((gi == 0) == (gc == 0)) = false by
        rcases hgk with ⟨h1, h2⟩ | ⟨h1, h2⟩
        · rw [h1, beq_false_of_ne h2]; rfl
        · rw [h2, beq_false_of_ne h1]; rfl)
      clear hgk
      have hx := HX.out
      go_wp2
      go_quiet (fail)
      go_wp2
      go_roundw
      case rel => exact ⟨k + 1, by omega, by go_num, HQ.out.trans ⟨_, rfl⟩⟩
      case measure => simp [intOf]; omega
    · have hbk : decide ((k : Int) < (l.length : Int)) = false := by simp; omega
      go_wp2
      go_ret
      exact ⟨rfl, HQ.out⟩
set_option maxHeartbeats 2000000 in
theorem gets_any (a : Option Addr) (c : Nat) (l : List Gi) (ac it : Int) (w : World) (hl : l.length ≤ 5864062014634) (ha : Sl w a (gFlat l)) :
    Calls Try.prog 33 #[.slice a l.length c, .int .i64 ac, .int .i64 it] w fun e w' => e = .returned (.tuple #[.int .i64 (nOf l ac it), .int .u64 (IntKind.u64.wrap (sOf l ac))]) ∧ Qt w w' := by
  have HA := Lib.hid ha
  clear ha
  go_enter Try.func33, Try.ntmps33
  go_wp2
  go_loopw [8, 9, 10] (fun n s i wr => ∃ k : Nat, k ≤ l.length ∧ i = .int .i64 k ∧ n = .int .i64 (nOf (l.take k) ac it) ∧ s = .int .u64 (IntKind.u64.wrap (sOf (l.take k) ac)) ∧ Qt w wr) (fun _ _ i _ => l.length - (intOf i).toNat)
  case atStart => exact ⟨0, by omega, rfl, by simp [nOf], by simp [sOf, IntKind.wrap_u64], Qt.refl _⟩
  case round =>
    obtain ⟨k, hk, rfl, rfl, rfl, hq⟩ := hrel
    have HQ := Lib.hid hq
    clear hq
    have hnb := nOf_bound (l.take k) ac it
    have HNB := Lib.hid (show nOf (l.take k) ac it ≤ k from Int.le_trans hnb.2 (by simp; omega))
    have HNC := Lib.hid hnb.1
    clear hnb
    by_cases hlt : k < l.length
    · have hbk : decide ((k : Int) < (l.length : Int)) = true := by simp; omega
      obtain ⟨b1, o1, rfl, x0, x1, x2⟩ := gift_at (HQ.out.sl HA.out) k hlt
      have i1 : (k : Int) < (l.length : Int) := by omega
      have HS1 := Lib.hid (nOf_succ l k (by simpa using hlt) ac it)
      have HS2 := Lib.hid (sOf_succ l k (by simpa using hlt) ac)
      rw [show l[k]'(by simpa using hlt) = ⟨l[k].to, l[k].item, l[k].coins⟩ by simp] at HS1 HS2
      simp only at HS1 HS2
      generalize l[k].to = gt at *
      generalize l[k].item = gi at *
      generalize l[k].coins = gc at *
      generalize nOf (l.take k) ac it = N at *
      generalize sOf (l.take k) ac = S at *
      have n1 := HNB.out
      have n2 := HNC.out
      by_cases h1 : gt = ac
      · have t1 : (gt != ac) = false := by simpa using h1
        by_cases h2 : gi = it
        · have t2 : (gi == it) = true := by simpa using h2
          by_cases h3 : it = 0
          · have t3 : (it != 0) = false := by simpa using h3
            have E1 := Lib.hid (HS1.out.trans (show _ = N by rw [if_neg (fun h => h.2.2 h3)]; omega))
            have E2 := Lib.hid (HS2.out.trans (show _ = S + gc by rw [if_pos h1]))
            clear h1 h2 h3
            go_wp2
            go_roundw
            case rel => exact ⟨k + 1, by omega, by go_num, by rw [E1.out], by rw [E2.out]; simp only [wrap_sum], HQ.out⟩
            case measure => simp [intOf]; omega
          · have t3 : (it != 0) = true := by simpa using h3
            have E1 := Lib.hid (HS1.out.trans (show _ = N + 1 by rw [if_pos ⟨h1, h2, h3⟩]))
            have E2 := Lib.hid (HS2.out.trans (show _ = S + gc by rw [if_pos h1]))
            clear h1 h2 h3
            go_wp2
            go_roundw
            case rel => exact ⟨k + 1, by omega, by go_num, by first | (rw [E1.out]; done) | (rw [E1.out]; go_num), by rw [E2.out]; simp only [wrap_sum], HQ.out⟩
            case measure => simp [intOf]; omega
        · have t2 : (gi == it) = false := by simpa using h2
          have E1 := Lib.hid (HS1.out.trans (show _ = N by rw [if_neg (fun h => h2 h.2.1)]; omega))
          have E2 := Lib.hid (HS2.out.trans (show _ = S + gc by rw [if_pos h1]))
          clear h1 h2
          go_wp2
          go_roundw
          case rel => exact ⟨k + 1, by omega, by go_num, by rw [E1.out], by rw [E2.out]; simp only [wrap_sum], HQ.out⟩
          case measure => simp [intOf]; omega
      · have t1 : (gt != ac) = true := by simpa using h1
        have E1 := Lib.hid (HS1.out.trans (show _ = N by rw [if_neg (fun h => h1 h.1)]; omega))
        have E2 := Lib.hid (HS2.out.trans (show _ = S by rw [if_neg h1]; omega))
        clear h1
        go_wp2
        go_roundw
        case rel => exact ⟨k + 1, by omega, by go_num, by rw [E1.out], by rw [E2.out], HQ.out⟩
        case measure => simp [intOf]; omega
    · have hbk : decide ((k : Int) < (l.length : Int)) = false := by simp; omega
      have HE := Lib.hid (show l.take k = l from List.take_of_length_le (by first | omega | (simp; omega)))
      go_wp2
      go_ret2
      rw [HE.out]
      exact ⟨rfl, HQ.out⟩
set_option maxHeartbeats 2000000 in
theorem holds_any (a : Option Addr) (c : Nat) (es : List Ent) (ac it : Int) (w : World) (hl : es.length ≤ 2513169434843) (ha : Sl w a (eFlat es)) :
    Calls Try.prog 32 #[.slice a es.length c, .int .i64 ac, .int .i64 it] w fun e w' => e = .returned (.tuple #[.int .i64 (nOf (es.map entG) ac it), .int .u64 (IntKind.u64.wrap (sOf (es.map entG) ac))]) ∧ Qt w w' := by
  have HA := Lib.hid ha
  clear ha
  go_enter Try.func32, Try.ntmps32
  go_wp2
  go_loopw [8, 9, 10] (fun n s i wr => ∃ k : Nat, k ≤ es.length ∧ i = .int .i64 k ∧ n = .int .i64 (nOf ((es.map entG).take k) ac it) ∧ s = .int .u64 (IntKind.u64.wrap (sOf ((es.map entG).take k) ac)) ∧ Qt w wr) (fun _ _ i _ => es.length - (intOf i).toNat)
  case atStart => exact ⟨0, by omega, rfl, by simp [nOf], by simp [sOf, IntKind.wrap_u64], Qt.refl _⟩
  case round =>
    obtain ⟨k, hk, rfl, rfl, rfl, hq⟩ := hrel
    have HQ := Lib.hid hq
    clear hq
    have hnb := nOf_bound ((es.map entG).take k) ac it
    have HNB := Lib.hid (show nOf ((es.map entG).take k) ac it ≤ k from Int.le_trans hnb.2 (by simp; omega))
    have HNC := Lib.hid hnb.1
    clear hnb
    by_cases hlt : k < es.length
    · have hbk : decide ((k : Int) < (es.length : Int)) = true := by simp; omega
      obtain ⟨b1, o1, rfl, x0, x1, x2, x3, x4⟩ := ent_at (HQ.out.sl HA.out) k hlt
      have i1 : (k : Int) < (es.length : Int) := by omega
      have HS1 := Lib.hid (nOf_succ (es.map entG) k (by simpa using hlt) ac it)
      have HS2 := Lib.hid (sOf_succ (es.map entG) k (by simpa using hlt) ac)
      rw [show (es.map entG)[k]'(by simpa using hlt) = ⟨es[k].acc, es[k].item, es[k].coins⟩ by simp [entG]] at HS1 HS2
      simp only at HS1 HS2
      generalize es[k].acc = gt at *
      generalize es[k].item = gi at *
      generalize es[k].coins = gc at *
      generalize nOf ((es.map entG).take k) ac it = N at *
      generalize sOf ((es.map entG).take k) ac = S at *
      have n1 := HNB.out
      have n2 := HNC.out
      by_cases h1 : gt = ac
      · have t1 : (gt != ac) = false := by simpa using h1
        by_cases h2 : gi = it
        · have t2 : (gi == it) = true := by simpa using h2
          by_cases h3 : it = 0
          · have t3 : (it != 0) = false := by simpa using h3
            have E1 := Lib.hid (HS1.out.trans (show _ = N by rw [if_neg (fun h => h.2.2 h3)]; omega))
            have E2 := Lib.hid (HS2.out.trans (show _ = S + gc by rw [if_pos h1]))
            clear h1 h2 h3
            go_wp2
            go_roundw
            case rel => exact ⟨k + 1, by omega, by go_num, by rw [E1.out], by rw [E2.out]; simp only [wrap_sum], HQ.out⟩
            case measure => simp [intOf]; omega
          · have t3 : (it != 0) = true := by simpa using h3
            have E1 := Lib.hid (HS1.out.trans (show _ = N + 1 by rw [if_pos ⟨h1, h2, h3⟩]))
            have E2 := Lib.hid (HS2.out.trans (show _ = S + gc by rw [if_pos h1]))
            clear h1 h2 h3
            go_wp2
            go_roundw
            case rel => exact ⟨k + 1, by omega, by go_num, by first | (rw [E1.out]; done) | (rw [E1.out]; go_num), by rw [E2.out]; simp only [wrap_sum], HQ.out⟩
            case measure => simp [intOf]; omega
        · have t2 : (gi == it) = false := by simpa using h2
          have E1 := Lib.hid (HS1.out.trans (show _ = N by rw [if_neg (fun h => h2 h.2.1)]; omega))
          have E2 := Lib.hid (HS2.out.trans (show _ = S + gc by rw [if_pos h1]))
          clear h1 h2
          go_wp2
          go_roundw
          case rel => exact ⟨k + 1, by omega, by go_num, by rw [E1.out], by rw [E2.out]; simp only [wrap_sum], HQ.out⟩
          case measure => simp [intOf]; omega
      · have t1 : (gt != ac) = true := by simpa using h1
        have E1 := Lib.hid (HS1.out.trans (show _ = N by rw [if_neg (fun h => h1 h.1)]; omega))
        have E2 := Lib.hid (HS2.out.trans (show _ = S by rw [if_neg h1]; omega))
        clear h1
        go_wp2
        go_roundw
        case rel => exact ⟨k + 1, by omega, by go_num, by rw [E1.out], by rw [E2.out], HQ.out⟩
        case measure => simp [intOf]; omega
    · have hbk : decide ((k : Int) < (es.length : Int)) = false := by simp; omega
      have HE := Lib.hid (show (es.map entG).take k = (es.map entG) from List.take_of_length_le (by first | omega | (simp; omega)))
      go_wp2
      go_ret2
      rw [HE.out]
      exact ⟨rfl, HQ.out⟩
end Go.Proofs.Ytiafhgcnjgpeaaa
