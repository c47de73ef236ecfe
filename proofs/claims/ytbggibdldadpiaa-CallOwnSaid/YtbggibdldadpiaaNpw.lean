/-
  Layer 1, plain: whole numbers by words of 32 bits, the lowest first.
-/
namespace Go.Words
abbrev W := BitVec 32
def val : List W → Nat
  | [] => 0
  | x :: r => x.toNat + 4294967296 * val r
def pw : Nat → Nat
  | 0 => 1
  | k + 1 => 4294967296 * pw k
def norm (l : List W) : Prop := ∀ x, l.getLast? = some x → x ≠ 0#32
theorem norm_nil : norm [] := fun x h => by cases h
theorem pw_pos : ∀ k, 0 < pw k
  | 0 => Nat.one_pos
  | k + 1 => by have := pw_pos k; show 0 < 4294967296 * pw k; omega
theorem pw_add (i : Nat) : ∀ k, pw (i + k) = pw i * pw k
  | 0 => by show pw i = pw i * 1; omega
  | k + 1 => by show 4294967296 * pw (i + k) = pw i * (4294967296 * pw k); rw [pw_add i k, Nat.mul_left_comm]
theorem pw_le {i k : Nat} (h : i ≤ k) : pw i ≤ pw k := by
  obtain ⟨d, rfl⟩ := Nat.le.dest h
  rw [pw_add]
  exact Nat.le_mul_of_pos_right _ (pw_pos d)
theorem pw_eq (k : Nat) : pw k = 2 ^ (32 * k) := by
  induction k with
  | zero => rfl
  | succ k ih => show 4294967296 * pw k = _; rw [ih, show 32 * (k + 1) = 32 * k + 32 by omega, Nat.pow_add, Nat.mul_comm]
theorem val_lt : ∀ l : List W, val l < pw l.length
  | [] => Nat.one_pos
  | x :: r => by
    have := val_lt r
    have hx := x.isLt
    show x.toNat + 4294967296 * val r < 4294967296 * pw r.length
    omega
theorem val_append : ∀ l m : List W, val (l ++ m) = val l + pw l.length * val m
  | [], m => by show val m = 0 + 1 * val m; omega
  | x :: r, m => by
    show x.toNat + 4294967296 * val (r ++ m) = x.toNat + 4294967296 * val r + 4294967296 * pw r.length * val m
    rw [val_append r m, Nat.mul_add, Nat.mul_assoc, Nat.add_assoc]
theorem val_one (x : W) : val [x] = x.toNat := by show x.toNat + 4294967296 * 0 = _; omega
theorem val_snoc (l : List W) (x : W) : val (l ++ [x]) = val l + pw l.length * x.toNat := by rw [val_append, val_one]
theorem val_take_succ (l : List W) (k : Nat) (h : k < l.length) : val (l.take (k + 1)) = val (l.take k) + pw k * l[k].toNat := by
  rw [List.take_succ_eq_append_getElem h, val_snoc, List.length_take, Nat.min_eq_left (by omega)]
theorem val_split (l : List W) (k : Nat) (h : k ≤ l.length) : val l = val (l.take k) + pw k * val (l.drop k) := by
  conv => lhs; rw [← List.take_append_drop k l, val_append, List.length_take, Nat.min_eq_left h]
theorem val_ge (l : List W) (hn : norm l) (h : l ≠ []) : pw (l.length - 1) ≤ val l := by
  obtain ⟨x, hx, hxl⟩ : ∃ x, l.getLast? = some x ∧ x = l.getLast h := ⟨_, List.getLast?_eq_some_getLast h, rfl⟩
  have h0 := hn x hx
  have hl : 0 < l.length := List.length_pos_iff.2 h
  have hd : l.dropLast ++ [x] = l := by rw [hxl]; exact List.dropLast_concat_getLast h
  have hlen : l.dropLast.length = l.length - 1 := List.length_dropLast
  rw [← hd, val_snoc, hd, hlen]
  have : 1 ≤ x.toNat := by
    rcases Nat.eq_zero_or_pos x.toNat with h' | h'
    · exact absurd (BitVec.eq_of_toNat_eq (by simpa using h')) h0
    · exact h'
  have := Nat.le_mul_of_pos_right (pw (l.length - 1)) this
  omega
theorem val_zero (l : List W) (hn : norm l) : val l = 0 ↔ l = [] := by
  constructor
  · intro h
    rcases l with _ | ⟨x, r⟩
    · rfl
    · have := val_ge _ hn (by simp)
      have := pw_pos ((x :: r).length - 1)
      omega
  · rintro rfl; rfl
theorem len_le (l : List W) (hn : norm l) (k : Nat) (h : val l < pw k) : l.length ≤ k := by
  rcases Nat.lt_or_ge k l.length with h' | h'
  · have h0 : l ≠ [] := fun e => by subst e; cases h'
    have := val_ge l hn h0
    have := pw_le (show k ≤ l.length - 1 by omega)
    omega
  · exact h'
theorem len_mono (l m : List W) (hl : norm l) (h : val l ≤ val m) : l.length ≤ m.length :=
  len_le l hl _ (Nat.lt_of_le_of_lt h (val_lt m))
theorem lt_of_len (l m : List W) (hm : norm m) (h : l.length < m.length) : val l < val m := by
  have h0 : m ≠ [] := fun e => by subst e; cases h
  have := val_ge m hm h0
  have := val_lt l
  have := pw_le (show l.length ≤ m.length - 1 by omega)
  omega
theorem norm_of (l : List W) (k : Nat) (h : k < l.length) (h0 : l[k] ≠ 0#32) : norm (l.take (k + 1)) := by
  intro x hx
  rw [List.take_succ_eq_append_getElem h, List.getLast?_append, List.getLast?_singleton] at hx
  injection hx with hx
  rw [← hx]; exact h0
/-- The same from a place on: which is greater is told there. -/
theorem cmp_at (l m : List W) (k : Nat) (hl : k < l.length) (hm : k < m.length) (hlen : l.length = m.length) (hd : l.drop (k + 1) = m.drop (k + 1)) (h : l[k].toNat < m[k].toNat) : val l < val m := by
  rw [val_split l (k + 1) (by omega), val_split m (k + 1) (by omega), hd, val_take_succ l k hl, val_take_succ m k hm]
  have h1 := val_lt (l.take k)
  rw [List.length_take, Nat.min_eq_left (by omega)] at h1
  have h2 : pw k * l[k].toNat + pw k ≤ pw k * m[k].toNat := by rw [← Nat.mul_succ]; exact Nat.mul_le_mul_left _ h
  omega
/-- The word at a place, 0 behind the last one. -/
def at0 (l : List W) (i : Nat) : W := l.getD i 0#32
theorem at0_lt (l : List W) (i : Nat) (h : i < l.length) : at0 l i = l[i] := by simp [at0, h]
theorem at0_ge (l : List W) (i : Nat) (h : l.length ≤ i) : at0 l i = 0#32 := by simp [at0, List.getElem?_eq_none h]
theorem val_take_at0 (l : List W) (k : Nat) : val (l.take (k + 1)) = val (l.take k) + pw k * (at0 l k).toNat := by
  rcases Nat.lt_or_ge k l.length with h | h
  · rw [val_take_succ l k h, at0_lt l k h]
  · rw [at0_ge l k h, List.take_of_length_le (by omega), List.take_of_length_le h]; rfl
theorem val_take_all (l : List W) (k : Nat) (h : l.length ≤ k) : val (l.take k) = val l := by rw [List.take_of_length_le h]
/-! ### Added, taken away -/
def plusSt (a b out : List W) (c k : Nat) : Prop := out.length = k ∧ c ≤ 1 ∧ val out + pw k * c = val (a.take k) + val (b.take k)
theorem plus_step {a b out : List W} {c k : Nat} (h : plusSt a b out c k) : plusSt a b (out ++ [BitVec.ofNat 32 ((at0 a k).toNat + (at0 b k).toNat + c)]) (((at0 a k).toNat + (at0 b k).toNat + c) / 4294967296) (k + 1) := by
  obtain ⟨h1, h2, h3⟩ := h
  have x1 := (at0 a k).isLt
  have x2 := (at0 b k).isLt
  refine ⟨by simp [h1], by omega, ?_⟩
  rw [val_snoc, h1, val_take_at0, val_take_at0, BitVec.toNat_ofNat]
  have hd := Nat.mod_add_div ((at0 a k).toNat + (at0 b k).toNat + c) 4294967296
  show _ + pw k * (_ % 4294967296) + 4294967296 * pw k * _ = _
  generalize (at0 a k).toNat = x at *
  generalize (at0 b k).toNat = y at *
  generalize (x + y + c) % 4294967296 = r at *
  generalize (x + y + c) / 4294967296 = q at *
  generalize pw k = p at *
  grind
theorem plus_end {a b out : List W} {c k : Nat} (h : plusSt a b out c k) (ha : a.length ≤ k) (hb : b.length ≤ k) : val (out ++ [BitVec.ofNat 32 c]) = val a + val b := by
  obtain ⟨h1, h2, h3⟩ := h
  rw [val_snoc, h1, BitVec.toNat_ofNat, Nat.mod_eq_of_lt (by omega), h3, val_take_all a k ha, val_take_all b k hb]
def minusSt (a b out : List W) (c k : Nat) : Prop := out.length = k ∧ c ≤ 1 ∧ val out + val (b.take k) = val (a.take k) + pw k * c
theorem sub_div (x y c : Nat) (hx : x < 4294967296) (hy : y < 4294967296) (hc : c ≤ 1) : (x + 4294967296 - y - c) / 4294967296 = if y + c ≤ x then 1 else 0 := by
  split <;> omega
theorem minus_step {a b out : List W} {c k : Nat} (h : minusSt a b out c k) : minusSt a b (out ++ [BitVec.ofNat 32 ((at0 a k).toNat + 4294967296 - (at0 b k).toNat - c)]) (1 - ((at0 a k).toNat + 4294967296 - (at0 b k).toNat - c) / 4294967296) (k + 1) := by
  obtain ⟨h1, h2, h3⟩ := h
  have x1 := (at0 a k).isLt
  have x2 := (at0 b k).isLt
  refine ⟨by simp [h1], by omega, ?_⟩
  rw [val_snoc, h1, val_take_at0, val_take_at0, BitVec.toNat_ofNat]
  have hd := sub_div (at0 a k).toNat (at0 b k).toNat c x1 x2 h2
  show _ + pw k * (_ % 4294967296) + _ = _ + 4294967296 * pw k * _
  rw [hd]
  generalize (at0 a k).toNat = x at *
  generalize (at0 b k).toNat = y at *
  have hm := Nat.mod_add_div (x + 4294967296 - y - c) 4294967296
  rw [hd] at hm
  generalize (x + 4294967296 - y - c) % 4294967296 = r at *
  generalize pw k = p at *
  split at hm
  · obtain ⟨d, rfl⟩ := Nat.le.dest (show y + c ≤ x by assumption)
    have : r = d := by omega
    subst this
    rw [if_pos (by omega)]
    grind
  · have : r + y + c = x + 4294967296 := by omega
    rw [if_neg (by assumption)]
    grind
theorem minus_end {a b out : List W} {c : Nat} (h : minusSt a b out c a.length) (hb : b.length ≤ a.length) (hle : val b ≤ val a) : val out = val a - val b := by
  obtain ⟨h1, h2, h3⟩ := h
  rw [val_take_all b _ hb, val_take_all a _ (Nat.le_refl _)] at h3
  have h4 := val_lt out
  rw [h1] at h4
  have : c = 0 ∨ c = 1 := by omega
  rcases this with rfl | rfl <;> omega
end Go.Words

