/-
  Layer 20: gifts; what is an item, what is bare; the terms, of the program and of the document.
-/
import Derived.Test.YtiafhgcnjgpeaaaWa
namespace Go.Proofs.Ytiafhgcnjgpeaaa
open Go.RowKit Go.K
set_option linter.unusedVariables false
set_option linter.unusedSimpArgs false

structure Gi where
  to : Int
  item : Int
  coins : Int
def Gi.cells (g : Gi) : List Value := [.int .i64 g.to, .int .i64 g.item, .int .u64 g.coins]
def Gi.agg (g : Gi) : Value := .agg #[.int .i64 g.to, .int .i64 g.item, .int .u64 g.coins]
def gFlat (l : List Gi) : List Value := l.flatMap Gi.cells
theorem gFlat_length (l : List Gi) : (gFlat l).length = l.length * 3 := by
  induction l with
  | nil => rfl
  | cons e l ih => show (e.cells ++ gFlat l).length = _; rw [List.length_append, ih]; simp [Gi.cells]; omega
theorem gFlat_append (l m : List Gi) : gFlat (l ++ m) = gFlat l ++ gFlat m := by simp [gFlat]
theorem gFlat_get (l : List Gi) (i j : Nat) (h : i < l.length) (hj : j < 3) : (gFlat l)[i * 3 + j]? = l[i].cells[j]? := by
  have e1 : l = l.take i ++ l[i] :: l.drop (i + 1) := by rw [← List.drop_eq_getElem_cons h, List.take_append_drop]
  have h1 : gFlat l = gFlat (l.take i) ++ (l[i].cells ++ gFlat (l.drop (i + 1))) := by
    conv => lhs; rw [e1]
    rw [gFlat_append]; rfl
  rw [h1, List.getElem?_append_right (by rw [gFlat_length, List.length_take]; omega), gFlat_length, List.length_take, Nat.min_eq_left (by omega), show i * 3 + j - i * 3 = j by omega, List.getElem?_append_left (by simpa [Gi.cells] using hj)]
/-- The cells of gift number i. -/
theorem gift_at {W : World} {a : Option Addr} {l : List Gi} (h : Sl W a (gFlat l)) (i : Nat) (hi : i < l.length) : ∃ b off, a = some ⟨b, off, none⟩ ∧
    W.cell? ⟨b, off + i * 3, none⟩ = some (.int .i64 l[i].to) ∧ W.cell? ⟨b, off + i * 3 + 1, none⟩ = some (.int .i64 l[i].item) ∧ W.cell? ⟨b, off + i * 3 + 2, none⟩ = some (.int .u64 l[i].coins) := by
  have hl := gFlat_length l
  obtain ⟨b, off, he, hc⟩ := h (fun e => by rw [e] at hl; simp at hl; omega)
  refine ⟨b, off, he, ?_, ?_, ?_⟩
  · have := hc (i * 3 + 0) (by omega)
    rw [gFlat_get _ i 0 hi (by omega)] at this; exact this
  · have := hc (i * 3 + 1) (by omega)
    rw [gFlat_get _ i 1 hi (by omega)] at this; rw [Nat.add_assoc]; exact this
  · have := hc (i * 3 + 2) (by omega)
    rw [gFlat_get _ i 2 hi (by omega)] at this; rw [Nat.add_assoc]; exact this
theorem gifts_true (a b : Option Addr) (c d : Nat) (l : List Gi) (w : World) (hl : l.length ≤ 5864062014634) (ha : Sl w a (gFlat l)) (hb : Sl w b (gFlat l)) :
    Calls Try.prog 22 #[.slice a l.length c, .slice b l.length d] w fun e w' => e = .returned (.bool true) ∧ Qt w w' := by
  have HA := Lib.hid ha
  have HB := Lib.hid hb
  have hb0 : ((l.length : Int) != (l.length : Int)) = false := by simp
  clear ha hb
  go_enter Try.func22, Try.ntmps22
  go_wp2
  go_loopw [5] (fun i wr => ∃ k : Nat, k ≤ l.length ∧ i = .int .i64 k ∧ Qt w wr) (fun i _ => l.length - (intOf i).toNat)
  case atStart => exact ⟨0, by omega, rfl, Qt.refl _⟩
  case round =>
    obtain ⟨k, hk, rfl, hq⟩ := hrel
    have HQ := Lib.hid hq
    clear hq
    by_cases hlt : k < l.length
    · have hbk : decide ((k : Int) < (l.length : Int)) = true := by simp; omega
      obtain ⟨b1, o1, rfl, x0, x1, x2⟩ := gift_at (HQ.out.sl HA.out) k hlt
      obtain ⟨b2, o2, rfl, y0, y1, y2⟩ := gift_at (HQ.out.sl HB.out) k hlt
      have i1 : (k : Int) < (l.length : Int) := by omega
      generalize l[k].to = gt at *
      generalize l[k].item = gi at *
      generalize l[k].coins = gc at *
      have hne1 : (gt == gt) = true := by simp
      have hne2 : (gi == gi) = true := by simp
      have hne3 : (gc == gc) = true := by simp
      go_wp2
      go_quiet (fail)
      go_wp2
      go_roundw
      case rel => exact ⟨k + 1, by omega, by go_num, HQ.out.trans ⟨_, rfl⟩⟩
      case measure => simp [intOf]; omega
    · have hbk : decide ((k : Int) < (l.length : Int)) = false := by simp; omega
      go_wp2
      go_ret
      exact ⟨rfl, HQ.out⟩
def itemP (n : Int) : Bool := decide (0 ≤ n) && decide (n ≤ 512)
theorem item_any (n : Int) (w : World) : Calls Try.prog 39 #[.int .i64 n] w fun e w' => e = .returned (.bool (itemP n)) ∧ w = w' := by
  go_enter Try.func39, Try.ntmps39
  by_cases h : 0 ≤ n
  · have t0 : decide (n ≥ 0) = true := by simpa using h
    have t1 : itemP n = decide (n ≤ 512) := by simp [itemP, h]
    go_wp2
    go_ret
    exact ⟨by rw [t1]; rfl, rfl⟩
  · have t0 : decide (n ≥ 0) = false := by simpa using h
    have t1 : itemP n = false := by simp [itemP, h]
    go_wp2
    go_ret
    exact ⟨rfl, rfl⟩
def bareP (e : Ent) : Bool := decide (e.price = 0) && decide (e.ws = [])
theorem bare_any (e : Ent) (w : World) : Calls Try.prog 40 #[e.agg] w fun r w' => r = .returned (.bool (bareP e)) ∧ Below w.heap.size w w' := by
  obtain ⟨a1, i1, c1, p1, wa1, wc1, ws1⟩ := e
  unfold Ent.agg
  go_enter Try.func40, Try.ntmps40
  by_cases h : p1 = 0
  · have t0 : (p1 == 0) = true := by simpa using h
    have t1 : (((ws1.length : Nat) : Int) == 0) = decide (ws1 = []) := by
      cases ws1 with
      | nil => rfl
      | cons x l => rw [decide_eq_false (by simp)]; exact beq_false_of_ne (by simp; omega)
    have HT := Lib.hid (show bareP ⟨a1, i1, c1, p1, wa1, wc1, ws1⟩ = decide (ws1 = []) by simp [bareP, h])
    clear h
    go_wp2
    go_ret
    exact ⟨by rw [HT.out]; rfl, (Below.refl _ _).alloc (Nat.le_refl _) _⟩
  · have t0 : (p1 == 0) = false := by simpa using h
    have HT := Lib.hid (show bareP ⟨a1, i1, c1, p1, wa1, wc1, ws1⟩ = false by simp [bareP, h])
    clear h
    go_wp2
    go_ret
    exact ⟨by rw [HT.out]; rfl, (Below.refl _ _).alloc (Nat.le_refl _) _⟩
theorem rbare_any (e : Ent) (w : World) : Calls Try.prog 47 #[e.agg] w fun r w' => r = .returned (.bool (bareP e)) ∧ Below w.heap.size w w' := by
  obtain ⟨a1, i1, c1, p1, wa1, wc1, ws1⟩ := e
  unfold Ent.agg
  go_enter Try.func47, Try.ntmps47
  by_cases h : p1 = 0
  · have t0 : (p1 == 0) = true := by simpa using h
    have t1 : (((ws1.length : Nat) : Int) == 0) = decide (ws1 = []) := by
      cases ws1 with
      | nil => rfl
      | cons x l => rw [decide_eq_false (by simp)]; exact beq_false_of_ne (by simp; omega)
    have HT := Lib.hid (show bareP ⟨a1, i1, c1, p1, wa1, wc1, ws1⟩ = decide (ws1 = []) by simp [bareP, h])
    clear h
    go_wp2
    go_ret
    exact ⟨by rw [HT.out]; rfl, (Below.refl _ _).alloc (Nat.le_refl _) _⟩
  · have t0 : (p1 == 0) = false := by simpa using h
    have HT := Lib.hid (show bareP ⟨a1, i1, c1, p1, wa1, wc1, ws1⟩ = false by simp [bareP, h])
    clear h
    go_wp2
    go_ret
    exact ⟨by rw [HT.out]; rfl, (Below.refl _ _).alloc (Nat.le_refl _) _⟩
def maxS : Int := 4611686018427387904
/-- What of a contract's own numbers is refused. -/
def termsV (c : Con) : Int :=
  if c.kind = 1 ∧ c.to = c.by' then 234
  else if c.kind ≠ 1 ∨ c.reserve ≠ 0 ∨ c.step ≠ 0 ∨ c.of' ≠ 0 ∨ itemP c.want = false ∨ c.price > maxS ∨ (c.want = 0 ∧ c.price = 0) then 200
  else match c.es with
    | [e] => if bareP e = false ∨ e.acc ≠ c.by' ∨ itemP e.item = false ∨ e.coins > maxS ∨ (e.item = 0 ∧ e.coins = 0) ∨ (e.item ≠ 0 ∧ e.item = c.want) then 200 else 0
    | _ => 200
end Go.Proofs.Ytiafhgcnjgpeaaa
