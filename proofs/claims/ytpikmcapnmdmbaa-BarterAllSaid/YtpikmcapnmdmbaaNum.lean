/-
  Texts of ours joined: Npw, Nwa, Nwb, Nwc, Nwd, Nwo.
-/
import Derived.Test.YtpikmcapnmdmbaaRows
import Derived.Test.YtpikmcapnmdmbaaGen
import Derived.BigQuiet
import Derived.Deep.QuietTactic
import Derived.Deep.LoopGhost
import Derived.Deep.RegionHeld3
import Derived.Deep.RegionWith
/-
  Layer 1, plain: whole numbers by words of 32 bits, the lowest first.
-/
namespace Go.Words
abbrev W := BitVec 32
def val : List W → Nat
  | [] => 0
  | x :: r => x.toNat + 4294967296 * val r
def pw : Nat → Nat
  | 0 => 1
  | k + 1 => 4294967296 * pw k
def norm (l : List W) : Prop := ∀ x, l.getLast? = some x → x ≠ 0#32
theorem norm_nil : norm [] := fun x h => by cases h
theorem pw_pos : ∀ k, 0 < pw k
  | 0 => Nat.one_pos
  | k + 1 => by have := pw_pos k; show 0 < 4294967296 * pw k; omega
theorem pw_add (i : Nat) : ∀ k, pw (i + k) = pw i * pw k
  | 0 => by show pw i = pw i * 1; omega
  | k + 1 => by show 4294967296 * pw (i + k) = pw i * (4294967296 * pw k); rw [pw_add i k, Nat.mul_left_comm]
theorem pw_le {i k : Nat} (h : i ≤ k) : pw i ≤ pw k := by
  obtain ⟨d, rfl⟩ := Nat.le.dest h
  rw [pw_add]
  exact Nat.le_mul_of_pos_right _ (pw_pos d)
theorem pw_eq (k : Nat) : pw k = 2 ^ (32 * k) := by
  induction k with
  | zero => rfl
  | succ k ih => show 4294967296 * pw k = _; rw [ih, show 32 * (k + 1) = 32 * k + 32 by omega, Nat.pow_add, Nat.mul_comm]
theorem val_lt : ∀ l : List W, val l < pw l.length
  | [] => Nat.one_pos
  | x :: r => by
    have := val_lt r
    have hx := x.isLt
    show x.toNat + 4294967296 * val r < 4294967296 * pw r.length
    omega
theorem val_append : ∀ l m : List W, val (l ++ m) = val l + pw l.length * val m
  | [], m => by show val m = 0 + 1 * val m; omega
  | x :: r, m => by
    show x.toNat + 4294967296 * val (r ++ m) = x.toNat + 4294967296 * val r + 4294967296 * pw r.length * val m
    rw [val_append r m, Nat.mul_add, Nat.mul_assoc, Nat.add_assoc]
theorem val_one (x : W) : val [x] = x.toNat := by show x.toNat + 4294967296 * 0 = _; omega
theorem val_snoc (l : List W) (x : W) : val (l ++ [x]) = val l + pw l.length * x.toNat := by rw [val_append, val_one]
theorem val_take_succ (l : List W) (k : Nat) (h : k < l.length) : val (l.take (k + 1)) = val (l.take k) + pw k * l[k].toNat := by
  rw [List.take_succ_eq_append_getElem h, val_snoc, List.length_take, Nat.min_eq_left (by omega)]
theorem val_split (l : List W) (k : Nat) (h : k ≤ l.length) : val l = val (l.take k) + pw k * val (l.drop k) := by
  conv => lhs; rw [← List.take_append_drop k l, val_append, List.length_take, Nat.min_eq_left h]
theorem val_ge (l : List W) (hn : norm l) (h : l ≠ []) : pw (l.length - 1) ≤ val l := by
  obtain ⟨x, hx, hxl⟩ : ∃ x, l.getLast? = some x ∧ x = l.getLast h := ⟨_, List.getLast?_eq_some_getLast h, rfl⟩
  have h0 := hn x hx
  have hl : 0 < l.length := List.length_pos_iff.2 h
  have hd : l.dropLast ++ [x] = l := by rw [hxl]; exact List.dropLast_concat_getLast h
  have hlen : l.dropLast.length = l.length - 1 := List.length_dropLast
  rw [← hd, val_snoc, hd, hlen]
  have : 1 ≤ x.toNat := by
    rcases Nat.eq_zero_or_pos x.toNat with h' | h'
    · exact absurd (BitVec.eq_of_toNat_eq (by simpa using h')) h0
    · exact h'
  have := Nat.le_mul_of_pos_right (pw (l.length - 1)) this
  omega
theorem val_zero (l : List W) (hn : norm l) : val l = 0 ↔ l = [] := by
  constructor
  · intro h
    rcases l with _ | ⟨x, r⟩
    · rfl
    · have := val_ge _ hn (by simp)
      have := pw_pos ((x :: r).length - 1)
      omega
  · rintro rfl; rfl
theorem len_le (l : List W) (hn : norm l) (k : Nat) (h : val l < pw k) : l.length ≤ k := by
  rcases Nat.lt_or_ge k l.length with h' | h'
  · have h0 : l ≠ [] := fun e => by subst e; cases h'
    have := val_ge l hn h0
    have := pw_le (show k ≤ l.length - 1 by omega)
    omega
  · exact h'
theorem len_mono (l m : List W) (hl : norm l) (h : val l ≤ val m) : l.length ≤ m.length :=
  len_le l hl _ (Nat.lt_of_le_of_lt h (val_lt m))
theorem lt_of_len (l m : List W) (hm : norm m) (h : l.length < m.length) : val l < val m := by
  have h0 : m ≠ [] := fun e => by subst e; cases h
  have := val_ge m hm h0
  have := val_lt l
  have := pw_le (show l.length ≤ m.length - 1 by omega)
  omega
theorem norm_of (l : List W) (k : Nat) (h : k < l.length) (h0 : l[k] ≠ 0#32) : norm (l.take (k + 1)) := by
  intro x hx
  rw [List.take_succ_eq_append_getElem h, List.getLast?_append, List.getLast?_singleton] at hx
  injection hx with hx
  rw [← hx]; exact h0
/-- The same from a place on: which is greater is told there. -/
theorem cmp_at (l m : List W) (k : Nat) (hl : k < l.length) (hm : k < m.length) (hlen : l.length = m.length) (hd : l.drop (k + 1) = m.drop (k + 1)) (h : l[k].toNat < m[k].toNat) : val l < val m := by
  rw [val_split l (k + 1) (by omega), val_split m (k + 1) (by omega), hd, val_take_succ l k hl, val_take_succ m k hm]
  have h1 := val_lt (l.take k)
  rw [List.length_take, Nat.min_eq_left (by omega)] at h1
  have h2 : pw k * l[k].toNat + pw k ≤ pw k * m[k].toNat := by rw [← Nat.mul_succ]; exact Nat.mul_le_mul_left _ h
  omega
/-- The word at a place, 0 behind the last one. -/
def at0 (l : List W) (i : Nat) : W := l.getD i 0#32
theorem at0_lt (l : List W) (i : Nat) (h : i < l.length) : at0 l i = l[i] := by simp [at0, h]
theorem at0_ge (l : List W) (i : Nat) (h : l.length ≤ i) : at0 l i = 0#32 := by simp [at0, List.getElem?_eq_none h]
theorem val_take_at0 (l : List W) (k : Nat) : val (l.take (k + 1)) = val (l.take k) + pw k * (at0 l k).toNat := by
  rcases Nat.lt_or_ge k l.length with h | h
  · rw [val_take_succ l k h, at0_lt l k h]
  · rw [at0_ge l k h, List.take_of_length_le (by omega), List.take_of_length_le h]; rfl
theorem val_take_all (l : List W) (k : Nat) (h : l.length ≤ k) : val (l.take k) = val l := by rw [List.take_of_length_le h]
/-! ### Added, taken away -/
def plusSt (a b out : List W) (c k : Nat) : Prop := out.length = k ∧ c ≤ 1 ∧ val out + pw k * c = val (a.take k) + val (b.take k)
theorem plus_step {a b out : List W} {c k : Nat} (h : plusSt a b out c k) : plusSt a b (out ++ [BitVec.ofNat 32 ((at0 a k).toNat + (at0 b k).toNat + c)]) (((at0 a k).toNat + (at0 b k).toNat + c) / 4294967296) (k + 1) := by
  obtain ⟨h1, h2, h3⟩ := h
  have x1 := (at0 a k).isLt
  have x2 := (at0 b k).isLt
  refine ⟨by simp [h1], by omega, ?_⟩
  rw [val_snoc, h1, val_take_at0, val_take_at0, BitVec.toNat_ofNat]
  have hd := Nat.mod_add_div ((at0 a k).toNat + (at0 b k).toNat + c) 4294967296
  show _ + pw k * (_ % 4294967296) + 4294967296 * pw k * _ = _
  generalize (at0 a k).toNat = x at *
  generalize (at0 b k).toNat = y at *
  generalize (x + y + c) % 4294967296 = r at *
  generalize (x + y + c) / 4294967296 = q at *
  generalize pw k = p at *
  grind
theorem plus_end {a b out : List W} {c k : Nat} (h : plusSt a b out c k) (ha : a.length ≤ k) (hb : b.length ≤ k) : val (out ++ [BitVec.ofNat 32 c]) = val a + val b := by
  obtain ⟨h1, h2, h3⟩ := h
  rw [val_snoc, h1, BitVec.toNat_ofNat, Nat.mod_eq_of_lt (by omega), h3, val_take_all a k ha, val_take_all b k hb]
def minusSt (a b out : List W) (c k : Nat) : Prop := out.length = k ∧ c ≤ 1 ∧ val out + val (b.take k) = val (a.take k) + pw k * c
theorem sub_div (x y c : Nat) (hx : x < 4294967296) (hy : y < 4294967296) (hc : c ≤ 1) : (x + 4294967296 - y - c) / 4294967296 = if y + c ≤ x then 1 else 0 := by
  split <;> omega
theorem minus_step {a b out : List W} {c k : Nat} (h : minusSt a b out c k) : minusSt a b (out ++ [BitVec.ofNat 32 ((at0 a k).toNat + 4294967296 - (at0 b k).toNat - c)]) (1 - ((at0 a k).toNat + 4294967296 - (at0 b k).toNat - c) / 4294967296) (k + 1) := by
  obtain ⟨h1, h2, h3⟩ := h
  have x1 := (at0 a k).isLt
  have x2 := (at0 b k).isLt
  refine ⟨by simp [h1], by omega, ?_⟩
  rw [val_snoc, h1, val_take_at0, val_take_at0, BitVec.toNat_ofNat]
  have hd := sub_div (at0 a k).toNat (at0 b k).toNat c x1 x2 h2
  show _ + pw k * (_ % 4294967296) + _ = _ + 4294967296 * pw k * _
  rw [hd]
  generalize (at0 a k).toNat = x at *
  generalize (at0 b k).toNat = y at *
  have hm := Nat.mod_add_div (x + 4294967296 - y - c) 4294967296
  rw [hd] at hm
  generalize (x + 4294967296 - y - c) % 4294967296 = r at *
  generalize pw k = p at *
  split at hm
  · obtain ⟨d, rfl⟩ := Nat.le.dest (show y + c ≤ x by assumption)
    have : r = d := by omega
    subst this
    rw [if_pos (by omega)]
    grind
  · have : r + y + c = x + 4294967296 := by omega
    rw [if_neg (by assumption)]
    grind
theorem minus_end {a b out : List W} {c : Nat} (h : minusSt a b out c a.length) (hb : b.length ≤ a.length) (hle : val b ≤ val a) : val out = val a - val b := by
  obtain ⟨h1, h2, h3⟩ := h
  rw [val_take_all b _ hb, val_take_all a _ (Nat.le_refl _)] at h3
  have h4 := val_lt out
  rw [h1] at h4
  have : c = 0 ∨ c = 1 := by omega
  rcases this with rfl | rfl <;> omega
end Go.Words
/-
  Layer 1: words of the document's numbers, walked: word, short, plus, minus, against.
-/
namespace Go.Proofs.Ytpikmcapnmdmbaa.n01
open Go.RowKit Go.K Go.Words
set_option linter.unusedVariables false
set_option linter.unusedSimpArgs false

def vW (l : List (BitVec 32)) : List Value := l.map fun c => .int .u32 (U32 c)
theorem vW_length (l : List (BitVec 32)) : (vW l).length = l.length := by simp [vW]
theorem vW_get (l : List (BitVec 32)) (i : Nat) (h : i < l.length) : (vW l)[i]? = some (.int .u32 (U32 l[i])) := by
  simp [vW, List.getElem?_eq_getElem h]
theorem vW_append (l m : List (BitVec 32)) : vW (l ++ m) = vW l ++ vW m := by simp [vW]
theorem vW_take (l : List (BitVec 32)) (n : Nat) : vW (l.take n) = (vW l).take n := by simp [vW, List.map_take]
theorem vW_ne {l : List (BitVec 32)} {k : Nat} (h : k < l.length) : vW l ≠ [] := fun e => by
  have := congrArg List.length e
  rw [vW_length] at this
  simp only [List.length_nil] at this
  omega
theorem oneCell_vW (l : List (BitVec 32)) : ∀ u ∈ vW l, u.oneCell' = true := by
  intro u hu
  obtain ⟨c, _, rfl⟩ := List.mem_map.1 hu
  rfl
theorem Try.info75 : (Try.prog.info? 95).map (fun i => (i.zero, i.size, i.bytes)) = some (some (.int .u32 0), 1, 4) := by kernel_rfl
theorem word_any (a : Option Addr) (cap : Nat) (l : List (BitVec 32)) (i : Nat) (w : World) (hs : Sl w a (vW l)) (hl : l.length ≤ 1000000) (hi : i ≤ 1000000) :
    Calls Try.prog 69 #[.slice a l.length cap, .int .i64 i] w fun e w' => e = .returned (.int .u64 (U32 (at0 l i))) ∧ w = w' := by
  have HS := Lib.hid hs
  clear hs
  by_cases h : i < l.length
  · obtain ⟨b, off, rfl, hc⟩ := HS.out (vW_ne h)
    have h1 := hc i (by rw [vW_length]; exact h)
    rw [vW_get l i h] at h1
    have HA := Lib.hid (show U32 l[i] = U32 (at0 l i) by rw [at0_lt l i h])
    have hlo := U32_lo l[i]
    have hhi := U32_hi l[i]
    have t0 : decide ((i : Int) < (l.length : Int)) = true := by simp; omega
    have i1 : (i : Int) < (l.length : Int) := by omega
    clear hc
    go_enter Try.func69, Try.ntmps69
    go_wp2
    go_ret
    exact ⟨ret_int HA.out, rfl⟩
  · have HA := Lib.hid (show (0 : Int) = U32 (at0 l i) by rw [at0_ge l i (by omega)]; rfl)
    have t0 : decide ((i : Int) < (l.length : Int)) = false := by simp; omega
    go_enter Try.func69, Try.ntmps69
    go_wp2
    go_ret
    exact ⟨ret_int HA.out, rfl⟩
theorem short_any (a : Option Addr) (cap : Nat) (l : List (BitVec 32)) (w : World) (hs : Sl w a (vW l)) (hl : l.length ≤ 1000000) (hc : l.length ≤ cap) :
    Calls Try.prog 67 #[.slice a l.length cap] w fun e w' => ∃ n, n ≤ l.length ∧ e = .returned (.slice a n cap) ∧ norm (l.take n) ∧ val (l.take n) = val l ∧ w = w' := by
  have HS := Lib.hid hs
  clear hs
  go_enter Try.func67, Try.ntmps67
  go_wp2
  go_loop [3] (fun i => ∃ n : Nat, n ≤ l.length ∧ i = .int .i64 n ∧ val (l.take n) = val l) (fun i => (intOf i).toNat)
  case atStart => exact ⟨l.length, Nat.le_refl _, rfl, by rw [List.take_length]⟩
  case round =>
    obtain ⟨n, hn, rfl, hv⟩ := hrel
    have HV := Lib.hid hv
    clear hv
    by_cases h0 : n = 0
    · subst h0
      have i1 : (0 : Int) ≤ (cap : Int) := by omega
      go_wp2
      go_ret
      exact ⟨0, Nat.zero_le _, rfl, norm_nil, HV.out, rfl⟩
    · obtain ⟨m, rfl⟩ : ∃ m, n = m + 1 := ⟨n - 1, by omega⟩
      obtain ⟨b, off, rfl, hcell⟩ := HS.out (vW_ne (k := m) (by omega))
      have h1 := hcell m (by rw [vW_length]; omega)
      rw [vW_get l m (by omega)] at h1
      have t0 : decide (0 < ((m + 1 : Nat) : Int)) = true := by simp
      have i0 : (m : Int) + 1 - 1 = (m : Int) := by omega
      have i1 : (m : Int) < (l.length : Int) := by omega
      have i2 : (m : Int) + 1 ≤ (cap : Int) := by omega
      have hm : m < l.length := by omega
      clear hcell
      by_cases hz : l[m] = 0#32
      · have t1 : (U32 l[m] == 0) = true := by rw [hz]; rfl
        have HW := Lib.hid (show val (l.take m) = val l by rw [← HV.out, val_take_succ l m hm, hz]; rfl)
        clear hz
        go_wp2
        go_round
        case rel => exact ⟨m, by omega, by go_num, HW.out⟩
        case measure => simp [intOf]
      · have t1 : (U32 l[m] == 0) = false := beq_eq_false_iff_ne.2 (fun h => hz (U32_inj h))
        have HN := Lib.hid (norm_of l m hm hz)
        clear hz
        go_wp2
        go_ret
        exact ⟨m + 1, by omega, rfl, HN.out, HV.out, rfl⟩
theorem sl_take' {W : World} {a : Option Addr} {vs : List Value} (h : Sl W a vs) (n : Nat) : Sl W a (vs.take n) := by
  intro hne
  have h0 : vs ≠ [] := fun e => by subst e; simp at hne
  obtain ⟨b, off, rfl, hc⟩ := h h0
  refine ⟨b, off, rfl, fun i hi => ?_⟩
  rw [List.length_take] at hi
  rw [hc i (by omega), List.getElem?_take_of_lt (by omega)]
theorem ofNat_U32 (n : Nat) : U32 (BitVec.ofNat 32 n) = (n : Int) % 4294967296 := by
  unfold U32; rw [BitVec.toNat_ofNat]; omega
theorem vW_snoc (out : List (BitVec 32)) (n : Nat) (z : Int) (h : z = (n : Int) % 4294967296) : vW out ++ [.int .u32 z] = vW (out ++ [BitVec.ofNat 32 n]) := by
  rw [vW_append, h, ← ofNat_U32]; rfl
/-- Words that lie in a block from number B on. -/
structure SlN (B : Nat) (W : World) (ad : Option Addr) (l : List (BitVec 32)) : Prop where
  sl : Sl W ad (vW l)
  ge : ∀ x, ad = some x → B ≤ x.block
/-- What an owned row of words is: its slice. -/
theorem owns_slice {W : World} {base n : Nat} {v : Value} {l : List (BitVec 32)} (h : W.ownsRow base 95 1 v n (vW l)) (hn : l.length = n) : ∃ ad cap, v = .slice ad l.length cap ∧ l.length ≤ cap ∧ SlN base W ad l := by
  rcases h.2 with ⟨hv, h0⟩ | ⟨g, cap, cur, hv, hg, hh, hnc, hcm, hcs, htk⟩
  · refine ⟨none, 0, ?_, by omega, ?_, fun x hx => by cases hx⟩
    · rw [hv]; congr 1; omega
    · have : l = [] := List.eq_nil_of_length_eq_zero (by omega)
      rw [this]; exact Sl.nil _ _
  · subst hv
    exact ⟨_, cap, by rw [hn], by omega, sl_of_owns h, fun x hx => by cases hx; exact hg⟩
set_option maxRecDepth 100000 in
set_option maxHeartbeats 1000000 in
theorem plus_any (a b : Option Addr) (c d : Nat) (l m : List (BitVec 32)) (w : World) (ha : Sl w a (vW l)) (hb : Sl w b (vW m)) (hl : l.length ≤ 1000) (hm : m.length ≤ 1000) :
    Calls Try.prog 64 #[.slice a l.length c, .slice b m.length d] w fun e w' => ∃ ad cap o, e = .returned (.slice ad o.length cap) ∧ o.length ≤ cap ∧ norm o ∧ val o = val l + val m ∧ SlN w.heap.size w' ad o ∧ Below w.heap.size w w' := by
  have HA := Lib.hid ha
  have HB := Lib.hid hb
  clear ha hb
  go_enter Try.func64, Try.ntmps64
  go_wp2
  go_loopw [5, 6, 7] (fun v q i wr => ∃ (k : Nat) (out : List (BitVec 32)) (r : Nat), (k ≤ l.length ∨ k ≤ m.length) ∧ i = .int .i64 k ∧ q = .int .u64 (r : Int) ∧ plusSt l m out r k ∧ wr.ownsRow w.heap.size 95 1 v k (vW out) ∧ Below w.heap.size w wr) (fun _ _ i _ => 1000 - (intOf i).toNat)
  case atStart => exact ⟨0, [], 0, .inl (Nat.zero_le _), rfl, rfl, ⟨rfl, Nat.zero_le _, rfl⟩, World.ownsRow_nil _ _ _ _, Below.refl _ _⟩
  case round =>
    obtain ⟨k, out, r, hk, rfl, rfl, hst, hown, hbl⟩ := hrel
    have HO := Lib.hid hown
    have HBL := Lib.hid hbl
    have HST := Lib.hid hst
    have hr := hst.2.1
    clear hown hbl hst
    by_cases hlt : k < l.length ∨ k < m.length
    · have HW1 := Lib.hid (show ∀ W, Below w.heap.size w W → Calls Try.prog 69 #[.slice a l.length c, .int .i64 k] W fun e w' => e = .returned (.int .u64 (U32 (at0 l k))) ∧ W = w' from
        fun W hW => word_any a c l k W (HA.out.kept hW) (by omega) (by omega))
      have HW2 := Lib.hid (show ∀ W, Below w.heap.size w W → Calls Try.prog 69 #[.slice b m.length d, .int .i64 k] W fun e w' => e = .returned (.int .u64 (U32 (at0 m k))) ∧ W = w' from
        fun W hW => word_any b d m k W (HB.out.kept hW) (by omega) (by omega))
      have HP := Lib.hid (plus_step HST.out)
      have HV := Lib.hid (vW_snoc out ((at0 l k).toNat + (at0 m k).toNat + r) ((U32 (at0 l k) + U32 (at0 m k) + r) % 4294967296) (by unfold U32; omega))
      have hx0 := U32_lo (at0 l k)
      have hx1 := U32_hi (at0 l k)
      have hy0 := U32_lo (at0 m k)
      have hy1 := U32_hi (at0 m k)
      have hri : (r : Int) ≤ 1 := by omega
      have HQ := Lib.hid (show (U32 (at0 l k) + U32 (at0 m k) + r) / 4294967296 = (((at0 l k).toNat + (at0 m k).toNat + r) / 4294967296 : Nat) by unfold U32; omega)
      generalize U32 (at0 l k) = x at *
      generalize U32 (at0 m k) = y at *
      by_cases h1 : k < l.length
      case' pos =>
        have t1 : decide ((k : Int) < (l.length : Int)) = true := by simp; omega
      case' neg =>
        have t1 : decide ((k : Int) < (l.length : Int)) = false := by simp; omega
        have t2 : decide ((k : Int) < (m.length : Int)) = true := by simp; omega
      all_goals
        go_wp2_with fail
        refine (HW1.out _ HBL.out).mono ?_
        rintro e w1 ⟨rfl, rfl⟩
        go_wp2_with fail
        refine (HW2.out _ HBL.out).mono ?_
        rintro e w1 ⟨rfl, rfl⟩
        go_wp2_with (at_builtin; refine wpList_append_sl rfl _ _ 80 rfl w.heap.size 95 (.int .u32 0) 1 4 Try.underlying80 Try.info75 rfl (by decide) _ k (vW out) rfl (HO.out.alloc _) (some ⟨wr.heap.size, 0, none⟩) 1 1 [.int .u32 ((x + y + r) % 4294967296)] rfl (fun h => by cases h) rfl (sl_new wr [.int .u32 ((x + y + r) % 4294967296)] 95 (0, 0)) (one_int _ _) ?c1 ?c2 ?c3 ?c4)
        case c1 => unfold maxLen; omega
        case c2 => omega
        case c3 => have := HBL.out.size; simp; omega
        case c4 =>
          intro v2 w2 hown hgr
          have HO2 := Lib.hid (show w2.ownsRow w.heap.size 95 1 v2 (k + 1) (vW (out ++ [BitVec.ofNat 32 ((at0 l k).toNat + (at0 m k).toNat + r)])) by rw [← HV.out]; exact hown)
          have HB2 := Lib.hid (show Below w.heap.size w w2 from (HBL.out.alloc HBL.out.size _).grown hgr (by have := HBL.out.size; simp; omega) (fun j hj => (HO.out.lt j hj).1))
          clear hown hgr
          go_wp2
          go_roundw
          case rel => exact ⟨k + 1, _, _, by omega, by go_num, by rw [← HQ.out], HP.out, HO2.out, HB2.out⟩
          case measure => simp [intOf]; omega
    · have t1 : decide ((k : Int) < (l.length : Int)) = false := by simp; omega
      have t2 : decide ((k : Int) < (m.length : Int)) = false := by simp; omega
      have hri : (r : Int) ≤ 1 := by omega
      have HV := Lib.hid (vW_snoc out r (r : Int) (by omega))
      have HE := Lib.hid (plus_end HST.out (by omega) (by omega))
      have HLn := Lib.hid HST.out.1
      go_wp2_with (at_builtin; refine wpList_append_sl rfl _ _ 80 rfl w.heap.size 95 (.int .u32 0) 1 4 Try.underlying80 Try.info75 rfl (by decide) _ k (vW out) rfl (HO.out.alloc _) (some ⟨wr.heap.size, 0, none⟩) 1 1 [.int .u32 (r : Int)] rfl (fun h => by cases h) rfl (sl_new wr [.int .u32 (r : Int)] 95 (0, 0)) (one_int _ _) ?c1 ?c2 ?c3 ?c4)
      case c1 => unfold maxLen; omega
      case c2 => omega
      case c3 => have := HBL.out.size; simp; omega
      case c4 =>
        intro v2 w2 hown hgr
        have hO2 : w2.ownsRow w.heap.size 95 1 v2 (k + 1) (vW (out ++ [BitVec.ofNat 32 r])) := by rw [← HV.out]; exact hown
        have HB2 := Lib.hid (show Below w.heap.size w w2 from (HBL.out.alloc HBL.out.size _).grown hgr (by have := HBL.out.size; simp; omega) (fun j hj => (HO.out.lt j hj).1))
        obtain ⟨ad, cap, rfl, hcap, hsl⟩ := owns_slice hO2 (by rw [List.length_append, HLn.out]; rfl)
        have HS2 := Lib.hid hsl
        have HL2 := Lib.hid (show (out ++ [BitVec.ofNat 32 r]).length ≤ 1000000 by rw [List.length_append, HLn.out]; show k + 1 ≤ _; omega)
        clear hown hgr hO2 hsl
        generalize out ++ [BitVec.ofNat 32 r] = o at *
        go_wp2_with fail
        refine (short_any ad cap o _ HS2.out.sl HL2.out hcap).mono ?_
        rintro e w3 ⟨n, hn, rfl, hnm, hv, rfl⟩
        have HN := Lib.hid hnm
        have HVV := Lib.hid hv
        clear hnm hv
        go_wp2
        go_ret
        exact ⟨ad, cap, o.take n, by rw [List.length_take, Nat.min_eq_left hn]; rfl, by rw [List.length_take]; omega, HN.out, by rw [HVV.out, HE.out], ⟨by rw [vW_take]; exact sl_take' HS2.out.sl n, HS2.out.ge⟩, HB2.out⟩
set_option maxRecDepth 100000 in
set_option maxHeartbeats 1000000 in
theorem minus_any (a b : Option Addr) (c d : Nat) (l m : List (BitVec 32)) (w : World) (ha : Sl w a (vW l)) (hb : Sl w b (vW m)) (hl : l.length ≤ 1000) (hm : m.length ≤ 1000) (hml : m.length ≤ l.length) (hle : val m ≤ val l) :
    Calls Try.prog 66 #[.slice a l.length c, .slice b m.length d] w fun e w' => ∃ ad cap o, e = .returned (.slice ad o.length cap) ∧ o.length ≤ cap ∧ norm o ∧ val o = val l - val m ∧ SlN w.heap.size w' ad o ∧ Below w.heap.size w w' := by
  have HA := Lib.hid ha
  have HB := Lib.hid hb
  have HLE := Lib.hid hle
  clear ha hb hle
  go_enter Try.func66, Try.ntmps66
  go_wp2
  go_loopw [5, 6, 7] (fun v q i wr => ∃ (k : Nat) (out : List (BitVec 32)) (r : Nat), k ≤ l.length ∧ i = .int .i64 k ∧ q = .int .u64 (r : Int) ∧ minusSt l m out r k ∧ wr.ownsRow w.heap.size 95 1 v k (vW out) ∧ Below w.heap.size w wr) (fun _ _ i _ => 1000 - (intOf i).toNat)
  case atStart => exact ⟨0, [], 0, Nat.zero_le _, rfl, rfl, ⟨rfl, Nat.zero_le _, rfl⟩, World.ownsRow_nil _ _ _ _, Below.refl _ _⟩
  case round =>
    obtain ⟨k, out, r, hk, rfl, rfl, hst, hown, hbl⟩ := hrel
    have HO := Lib.hid hown
    have HBL := Lib.hid hbl
    have HST := Lib.hid hst
    have hr := hst.2.1
    clear hown hbl hst
    by_cases hlt : k < l.length
    · have HW1 := Lib.hid (show ∀ W, Below w.heap.size w W → Calls Try.prog 69 #[.slice a l.length c, .int .i64 k] W fun e w' => e = .returned (.int .u64 (U32 (at0 l k))) ∧ W = w' from
        fun W hW => word_any a c l k W (HA.out.kept hW) (by omega) (by omega))
      have HW2 := Lib.hid (show ∀ W, Below w.heap.size w W → Calls Try.prog 69 #[.slice b m.length d, .int .i64 k] W fun e w' => e = .returned (.int .u64 (U32 (at0 m k))) ∧ W = w' from
        fun W hW => word_any b d m k W (HB.out.kept hW) (by omega) (by omega))
      have HP := Lib.hid (minus_step HST.out)
      have hxn := (at0 l k).isLt
      have hyn := (at0 m k).isLt
      have HV := Lib.hid (vW_snoc out ((at0 l k).toNat + 4294967296 - (at0 m k).toNat - r) ((U32 (at0 l k) + 4294967296 - U32 (at0 m k) - r) % 4294967296) (by unfold U32; omega))
      have hx0 := U32_lo (at0 l k)
      have hx1 := U32_hi (at0 l k)
      have hy0 := U32_lo (at0 m k)
      have hy1 := U32_hi (at0 m k)
      have hri : (r : Int) ≤ 1 := by omega
      have HQ := Lib.hid (show 1 - (U32 (at0 l k) + 4294967296 - U32 (at0 m k) - r) / 4294967296 = ((1 - ((at0 l k).toNat + 4294967296 - (at0 m k).toNat - r) / 4294967296 : Nat) : Int) by unfold U32; omega)
      clear hxn hyn
      generalize U32 (at0 l k) = x at *
      generalize U32 (at0 m k) = y at *
      have t1 : decide ((k : Int) < (l.length : Int)) = true := by simp; omega
      go_wp2_with fail
      refine (HW1.out _ HBL.out).mono ?_
      rintro e w1 ⟨rfl, rfl⟩
      go_wp2_with fail
      refine (HW2.out _ HBL.out).mono ?_
      rintro e w1 ⟨rfl, rfl⟩
      go_wp2_with (at_builtin; refine wpList_append_sl rfl _ _ 80 rfl w.heap.size 95 (.int .u32 0) 1 4 Try.underlying80 Try.info75 rfl (by decide) _ k (vW out) rfl (HO.out.alloc _) (some ⟨wr.heap.size, 0, none⟩) 1 1 [.int .u32 ((x + 4294967296 - y - r) % 4294967296)] rfl (fun h => by cases h) rfl (sl_new wr [.int .u32 ((x + 4294967296 - y - r) % 4294967296)] 95 (0, 0)) (one_int _ _) ?c1 ?c2 ?c3 ?c4)
      case c1 => unfold maxLen; omega
      case c2 => omega
      case c3 => have := HBL.out.size; simp; omega
      case c4 =>
        intro v2 w2 hown hgr
        have HO2 := Lib.hid (show w2.ownsRow w.heap.size 95 1 v2 (k + 1) (vW (out ++ [BitVec.ofNat 32 ((at0 l k).toNat + 4294967296 - (at0 m k).toNat - r)])) by rw [← HV.out]; exact hown)
        have HB2 := Lib.hid (show Below w.heap.size w w2 from (HBL.out.alloc HBL.out.size _).grown hgr (by have := HBL.out.size; simp; omega) (fun j hj => (HO.out.lt j hj).1))
        clear hown hgr
        go_wp2
        go_roundw
        case rel => exact ⟨k + 1, _, _, by omega, by go_num, by rw [← HQ.out], HP.out, HO2.out, HB2.out⟩
        case measure => simp [intOf]; omega
    · obtain rfl : k = l.length := by omega
      have t1 : decide ((l.length : Int) < (l.length : Int)) = false := by simp
      have HE := Lib.hid (minus_end HST.out hml HLE.out)
      have HLn := Lib.hid HST.out.1
      obtain ⟨ad, cap, rfl, hcap, hsl⟩ := owns_slice HO.out HST.out.1
      have HS2 := Lib.hid hsl
      have HL2 := Lib.hid (show out.length ≤ 1000000 by rw [HLn.out]; omega)
      clear hsl
      go_wp2_with fail
      refine (short_any ad cap out _ HS2.out.sl HL2.out hcap).mono ?_
      rintro e w3 ⟨n, hn, rfl, hnm, hv, rfl⟩
      have HN := Lib.hid hnm
      have HVV := Lib.hid hv
      clear hnm hv
      go_wp2
      go_ret
      exact ⟨ad, cap, out.take n, by rw [List.length_take, Nat.min_eq_left hn]; rfl, by rw [List.length_take]; omega, HN.out, by rw [HVV.out, HE.out], ⟨by rw [vW_take]; exact sl_take' HS2.out.sl n, HS2.out.ge⟩, HBL.out⟩
def cmpZ (x y : Nat) : Int := if x < y then -1 else if y < x then 1 else 0
set_option maxRecDepth 100000 in
theorem against_any (a b : Option Addr) (c d : Nat) (l m : List (BitVec 32)) (w : World) (ha : Sl w a (vW l)) (hb : Sl w b (vW m)) (hl : l.length ≤ 1000) (hm : m.length ≤ 1000) (hnl : norm l) (hnm : norm m) :
    Calls Try.prog 65 #[.slice a l.length c, .slice b m.length d] w fun e w' => e = .returned (.int .i64 (cmpZ (val l) (val m))) ∧ Qt w w' := by
  have HA := Lib.hid ha
  have HB := Lib.hid hb
  by_cases hlen : l.length = m.length
  · have HL := Lib.hid hlen
    have t0 : ((l.length : Int) != (m.length : Int)) = false := by rw [bne_eq_false_iff_eq]; omega
    clear ha hb hnl hnm hlen
    go_enter Try.func65, Try.ntmps65
    go_wp2
    go_loopw [5] (fun i wr => ∃ k : Nat, k ≤ l.length ∧ i = .int .i64 ((k : Int) - 1) ∧ l.drop k = m.drop k ∧ Qt w wr) (fun i _ => (intOf i + 1).toNat)
    case atStart => exact ⟨l.length, Nat.le_refl _, rfl, by rw [List.drop_length, HL.out, List.drop_length], Qt.refl _⟩
    case round =>
      obtain ⟨k, hk, rfl, hd, hbl⟩ := hrel
      have HD := Lib.hid hd
      have HBL := Lib.hid hbl
      clear hd hbl
      by_cases h0 : k = 0
      · subst h0
        have HE := Lib.hid (show l = m by have := HD.out; rwa [List.drop_zero, List.drop_zero] at this)
        go_wp2
        go_ret
        exact ⟨by rw [HE.out]; simp [cmpZ], HBL.out⟩
      · obtain ⟨j, rfl⟩ : ∃ j, k = j + 1 := ⟨k - 1, by omega⟩
        have i0 : ((j + 1 : Nat) : Int) - 1 = (j : Int) := by omega
        have i0' : (j : Int) + 1 - 1 = (j : Int) := by omega
        have hjl : j < l.length := by omega
        have hjm : j < m.length := by rw [← HL.out]; omega
        have i1 : (j : Int) < (l.length : Int) := by omega
        have i2 : (j : Int) < (m.length : Int) := by omega
        obtain ⟨b1, o1, rfl, hc1⟩ := (HBL.out.sl HA.out) (vW_ne hjl)
        obtain ⟨b2, o2, rfl, hc2⟩ := (HBL.out.sl HB.out) (vW_ne hjm)
        have h1 := hc1 j (by rw [vW_length]; exact hjl)
        have h2 := hc2 j (by rw [vW_length]; exact hjm)
        rw [vW_get l j hjl] at h1
        rw [vW_get m j hjm] at h2
        clear hc1 hc2
        by_cases he : l[j] = m[j]
        · have e1 : (U32 l[j] != U32 m[j]) = false := by rw [he]; simp
          have HD2 := Lib.hid (show l.drop j = m.drop j by rw [List.drop_eq_getElem_cons hjl, List.drop_eq_getElem_cons hjm, he, HD.out])
          clear he
          go_wp2
          go_quiet (fail)
          go_wp2
          go_roundw
          case rel => exact ⟨j, by omega, by go_num, HD2.out, HBL.out.trans ⟨_, rfl⟩⟩
          case measure => simp [intOf]
        · have e1 : (U32 l[j] != U32 m[j]) = true := by rw [U32_bne]; simpa using he
          have hne : l[j].toNat ≠ m[j].toNat := fun h => he (BitVec.eq_of_toNat_eq h)
          by_cases hlt : l[j].toNat < m[j].toNat
          · have e2 : decide (U32 l[j] < U32 m[j]) = true := decide_eq_true (by unfold U32; omega)
            have HV := Lib.hid (show cmpZ (val l) (val m) = -1 by unfold cmpZ; rw [if_pos (cmp_at l m j hjl hjm HL.out HD.out hlt)])
            clear hlt hne he
            go_wp2
            go_quiet (fail)
            go_wp2
            go_quiet (fail)
            go_wp2
            go_ret
            exact ⟨by rw [HV.out]; rfl, HBL.out.trans ⟨_, rfl⟩⟩
          · have e2 : decide (U32 l[j] < U32 m[j]) = false := decide_eq_false (by unfold U32; omega)
            have HV := Lib.hid (show cmpZ (val l) (val m) = 1 by
              have := cmp_at m l j hjm hjl HL.out.symm HD.out.symm (by omega)
              unfold cmpZ; rw [if_neg (by omega), if_pos this])
            clear hlt hne he
            go_wp2
            go_quiet (fail)
            go_wp2
            go_quiet (fail)
            go_wp2
            go_ret
            exact ⟨by rw [HV.out]; rfl, HBL.out.trans ⟨_, rfl⟩⟩
  · have t0 : ((l.length : Int) != (m.length : Int)) = true := by rw [bne_iff_ne]; omega
    by_cases hlt : l.length < m.length
    · have t1 : decide ((l.length : Int) < (m.length : Int)) = true := by simp; omega
      have HV := Lib.hid (show cmpZ (val l) (val m) = -1 by unfold cmpZ; rw [if_pos (lt_of_len l m hnm hlt)])
      clear ha hb hnl hnm
      go_enter Try.func65, Try.ntmps65
      go_wp2
      go_ret
      exact ⟨by rw [HV.out]; rfl, Qt.refl _⟩
    · have t1 : decide ((l.length : Int) < (m.length : Int)) = false := by simp; omega
      have HV := Lib.hid (show cmpZ (val l) (val m) = 1 by
        have := lt_of_len m l hnl (by omega)
        unfold cmpZ; rw [if_neg (by omega), if_pos this])
      clear ha hb hnl hnm
      go_enter Try.func65, Try.ntmps65
      go_wp2
      go_ret
      exact ⟨by rw [HV.out]; rfl, Qt.refl _⟩
end Go.Proofs.Ytpikmcapnmdmbaa.n01
/-
  Layer 1: the document's numbers of any length, walked: made, told, added.
-/
namespace Go.Proofs.Ytpikmcapnmdmbaa.n01
open Go.RowKit Go.K Go.Words
set_option linter.unusedVariables false
set_option linter.unusedSimpArgs false

/-- A block of a number: whether it is below 0, its words. -/
def IsInt (W : World) (g : Nat) : Prop := ∃ bl ad n cap, W.heap[g]? = some (.cells #[.bool bl, .slice ad n cap] 82)
def IntAt (W : World) (g : Nat) (z : Int) : Prop := ∃ (bl : Bool) (ad : Option Addr) (cap : Nat) (l : List (BitVec 32)), W.heap[g]? = some (.cells #[.bool bl, .slice ad l.length cap] 82) ∧ Sl W ad (vW l) ∧ norm l ∧ l.length ≤ cap ∧
  z = (if bl = true then -(val l : Int) else (val l : Int)) ∧ (bl = true → l ≠ [])
theorem IntAt.isInt {W : World} {g : Nat} {z : Int} (h : IntAt W g z) : IsInt W g := by
  obtain ⟨bl, ad, cap, l, h1, _⟩ := h; exact ⟨_, _, _, _, h1⟩
theorem IntAt.kept {W W' : World} {g : Nat} {z : Int} (h : IntAt W g z) (hb : Below W.heap.size W W') : IntAt W' g z := by
  obtain ⟨bl, ad, cap, l, h1, h2, h3⟩ := h
  exact ⟨bl, ad, cap, l, row_kept h1 hb, h2.kept hb, h3⟩
theorem IsInt.kept {W W' : World} {g : Nat} (h : IsInt W g) (hb : Below W.heap.size W W') : IsInt W' g := by
  obtain ⟨bl, ad, n, cap, h1⟩ := h
  exact ⟨bl, ad, n, cap, row_kept h1 hb⟩
/-- Words lie in no block of a number. -/
theorem words_away {W : World} {r : Nat} (hr : IsInt W r) {l : List (BitVec 32)} {b off : Nat} (hne : l ≠ []) (hc : ∀ i, i < (vW l).length → W.cell? ⟨b, off + i, none⟩ = (vW l)[i]?) : b ≠ r := by
  rintro rfl
  obtain ⟨bl, ad, n, cap, hrow⟩ := hr
  have hl : 0 < l.length := List.length_pos_iff.2 hne
  have h := hc 0 (by rw [vW_length]; exact hl)
  rw [vW_get l 0 hl, cell_of_row _ _ _ _ _ _ hrow] at h
  have : off + 0 = 0 ∨ off + 0 = 1 ∨ 2 ≤ off + 0 := by omega
  rcases this with e | e | e
  · rw [e] at h; simp at h
  · rw [e] at h; simp at h
  · rw [Array.getElem?_eq_none (by simpa using e)] at h; simp at h
theorem sl_awayInt {W W' : World} {r : Nat} (hr : IsInt W r) (hg : W.grownBy W' (some r)) {a : Option Addr} {l : List (BitVec 32)} (h : Sl W a (vW l)) : Sl W' a (vW l) := by
  intro hne
  obtain ⟨b, off, rfl, hc⟩ := h hne
  have hl : l ≠ [] := fun e => by subst e; exact hne rfl
  have hb := words_away hr hl hc
  refine ⟨b, off, rfl, fun i hi => ?_⟩
  have h1 := hc i hi
  rw [List.getElem?_eq_getElem hi] at h1 ⊢
  exact grown_cell hg h1 (Ne.symm hb)
theorem IntAt.away {W W' : World} {g r : Nat} {z : Int} (h : IntAt W g z) (hr : IsInt W r) (hg : W.grownBy W' (some r)) (hne : r ≠ g) : IntAt W' g z := by
  obtain ⟨bl, ad, cap, l, h1, h2, h3⟩ := h
  exact ⟨bl, ad, cap, l, row_away h1 hg hne, sl_awayInt hr hg h2, h3⟩
theorem IsInt.away {W W' : World} {g r : Nat} (h : IsInt W g) (hg : W.grownBy W' (some r)) (hne : r ≠ g) : IsInt W' g := by
  obtain ⟨bl, ad, n, cap, h1⟩ := h
  exact ⟨bl, ad, n, cap, row_away h1 hg hne⟩
theorem grown_alloc {w W : World} {r : Option Nat} (h : w.grownBy W r) (o : Obj) : w.grownBy (W.alloc o) r := grown_trans h (grown_below ((Below.refl _ _).alloc (Nat.le_refl _) o) r)
theorem isInt_new (W : World) : IsInt (W.alloc (.cells #[.bool false, .slice none 0 0] 82)) W.heap.size := ⟨_, _, _, _, alloc_at rfl⟩
theorem intAt_zero (W : World) : IntAt (W.alloc (.cells #[.bool false, .slice none 0 0] 82)) W.heap.size 0 :=
  ⟨false, none, 0, [], alloc_at rfl, Sl.nil _ _, norm_nil, Nat.le_refl _, rfl, fun h => by cases h⟩
theorem signed_any (g : Nat) (bl : Bool) (ad : Option Addr) (n cap : Nat) (w : World) (hg : IsInt w g) :
    Calls Try.prog 63 #[.pointer (some ⟨g, 0, none⟩), .bool bl, .slice ad n cap] w fun e w' => e = .returned (.pointer (some ⟨g, 0, none⟩)) ∧ w.grownBy w' (some g) ∧ w'.heap[g]? = some (.cells #[.bool (bl && decide (0 < n)), .slice ad n cap] 82) := by
  obtain ⟨b0, a0, n0, c0, hrow⟩ := hg
  have h0 : w.cell? ⟨g, 0, none⟩ = some (.bool b0) := by rw [cell_of_row _ _ _ _ _ _ hrow]; rfl
  have h1 : w.cell? ⟨g, 1, none⟩ = some (.slice a0 n0 c0) := by rw [cell_of_row _ _ _ _ _ _ hrow]; rfl
  have f0 := frozen_of_row _ _ 0 _ _ hrow
  have f1 := frozen_of_row _ _ 1 _ _ hrow
  have HG := Lib.hid hrow
  clear hrow
  cases bl
  · go_enter Try.func63, Try.ntmps63
    go_wp2
    go_ret
    exact ⟨rfl, grown_set (grown_set (grown_refl _ _) _ _) _ _, by rw [heap_setCell_same _ _ _ _ _ _ (heap_setCell_same _ _ _ _ _ _ HG.out)]; rfl⟩
  · by_cases hn : 0 < n
    · have t0 : decide (0 < (n : Int)) = true := by simp; omega
      have t1 : decide (0 < n) = true := by simpa using hn
      go_enter Try.func63, Try.ntmps63
      go_wp2
      go_ret
      exact ⟨rfl, grown_set (grown_set (grown_refl _ _) _ _) _ _, by rw [heap_setCell_same _ _ _ _ _ _ (heap_setCell_same _ _ _ _ _ _ HG.out), t1]; rfl⟩
    · have t0 : decide (0 < (n : Int)) = false := by simp; omega
      have t1 : decide (0 < n) = false := by simpa using hn
      go_enter Try.func63, Try.ntmps63
      go_wp2
      go_ret
      exact ⟨rfl, grown_set (grown_set (grown_refl _ _) _ _) _ _, by rw [heap_setCell_same _ _ _ _ _ _ (heap_setCell_same _ _ _ _ _ _ HG.out), t1]; rfl⟩
theorem val_two (x : BitVec 64) : val [x.setWidth 32, (x >>> 32).setWidth 32] = x.toNat := by
  show (x.setWidth 32).toNat + 4294967296 * (((x >>> 32).setWidth 32).toNat + 4294967296 * 0) = x.toNat
  rw [BitVec.toNat_setWidth, BitVec.toNat_setWidth, BitVec.toNat_ushiftRight, Nat.shiftRight_eq_div_pow]
  have := x.isLt
  omega
theorem lo32_x (x : BitVec 64) : U64 x % (4294967296 : Int) = U32 (x.setWidth 32) := by
  unfold U64 U32; rw [BitVec.toNat_setWidth]; rfl
theorem hi32_x (x : BitVec 64) : U64 x / (4294967296 : Int) = U32 ((x >>> 32).setWidth 32) := by
  unfold U64 U32; rw [BitVec.toNat_setWidth, BitVec.toNat_ushiftRight, Nat.shiftRight_eq_div_pow]; have := x.isLt; omega
theorem hi32_x' (x : BitVec 64) : U64 x / (4294967296 : Int) % (4294967296 : Int) = U32 ((x >>> 32).setWidth 32) := by
  rw [hi32_x, Int.emod_eq_of_lt (U32_lo _) (by have := U32_hi ((x >>> 32).setWidth 32); omega)]
theorem short_at (a : Option Addr) (n cap : Nat) (l : List (BitVec 32)) (w : World) (hn : l.length = n) (hs : Sl w a (vW l)) (hl : n ≤ 1000000) (hc : n ≤ cap) :
    Calls Try.prog 67 #[.slice a n cap] w fun e w' => ∃ k, k ≤ n ∧ e = .returned (.slice a k cap) ∧ norm (l.take k) ∧ val (l.take k) = val l ∧ w = w' := by
  subst hn; exact short_any a cap l w hs hl hc
theorem set64_any (g : Nat) (x : BitVec 64) (w : World) (hg : IsInt w g) :
    Calls Try.prog 56 #[.pointer (some ⟨g, 0, none⟩), .int .u64 (U64 x)] w fun e w' => e = .returned (.pointer (some ⟨g, 0, none⟩)) ∧ w.grownBy w' (some g) ∧ IntAt w' g x.toNat := by
  obtain ⟨b0, a0, n0, c0, hrow⟩ := hg
  have h0 : w.cell? ⟨g, 0, none⟩ = some (.bool b0) := by rw [cell_of_row _ _ _ _ _ _ hrow]; rfl
  have h1 : w.cell? ⟨g, 1, none⟩ = some (.slice a0 n0 c0) := by rw [cell_of_row _ _ _ _ _ _ hrow]; rfl
  have f0 := frozen_of_row _ _ 0 _ _ hrow
  have f1 := frozen_of_row _ _ 1 _ _ hrow
  have hz := lt_row hrow
  have HG := Lib.hid hrow
  clear hrow
  go_enter Try.func56, Try.ntmps56
  go_wp2_with fail
  rw [lo32_x, hi32_x']
  have hs : Sl ((w.setCell ⟨g, 0, none⟩ (.bool false)).alloc (.cells #[.int .u32 (U32 (x.setWidth 32)), .int .u32 (U32 ((x >>> 32).setWidth 32))] 95)) (some ⟨w.heap.size, 0, none⟩) (vW [x.setWidth 32, (x >>> 32).setWidth 32]) := by
    have := sl_new (w.setCell ⟨g, 0, none⟩ (.bool false)) (vW [x.setWidth 32, (x >>> 32).setWidth 32]) 95 (0, 0)
    rwa [World.size_setCell] at this
  refine (short_at _ 2 2 [x.setWidth 32, (x >>> 32).setWidth 32] _ rfl hs (by omega) (by omega)).mono ?_
  rintro e w' ⟨k, hk, rfl, hnm, hv, rfl⟩
  rw [val_two] at hv
  have HS := Lib.hid hs
  have HN := Lib.hid hnm
  have HV := Lib.hid hv
  clear hs hnm hv
  go_wp2
  go_ret
  have hlen : ([x.setWidth 32, (x >>> 32).setWidth 32].take k).length = k := by rw [List.length_take]; exact Nat.min_eq_left hk
  refine ⟨rfl, grown_alloc (grown_set (grown_set (grown_refl _ _) _ _) _ _) _, false, some ⟨w.heap.size, 0, none⟩, 2, [x.setWidth 32, (x >>> 32).setWidth 32].take k, ?_, ?_, HN.out, by omega, by rw [HV.out]; rfl, fun h => by cases h⟩
  · rw [hlen]
    exact alloc_old (by rw [heap_setCell_same _ _ _ _ _ _ (heap_setCell_same _ _ _ _ _ _ HG.out)]; rfl)
  · have := sl_new ((w.setCell ⟨g, 0, none⟩ (.bool false)).setCell ⟨g, 1, none⟩ (.slice (some ⟨w.heap.size, 0, none⟩) k 2)) (vW [x.setWidth 32, (x >>> 32).setWidth 32]) 95 (0, 0)
    rw [World.size_setCell, World.size_setCell] at this
    rw [vW_take]; exact sl_take' this k
def sgn (z : Int) : Int := if z < 0 then -1 else if z = 0 then 0 else 1
theorem u64_val (l : List (BitVec 32)) : (at0 l 0).toNat + 4294967296 * (at0 l 1).toNat = val l % 18446744073709551616 := by
  have h := val_split l (min 2 l.length) (Nat.min_le_right _ _)
  rcases l with _ | ⟨x, _ | ⟨y, r⟩⟩
  · rfl
  · have := x.isLt
    show x.toNat + 4294967296 * 0 = (x.toNat + 4294967296 * 0) % _
    omega
  · have := x.isLt
    have := y.isLt
    show x.toNat + 4294967296 * y.toNat = (x.toNat + 4294967296 * (y.toNat + 4294967296 * val r)) % _
    omega
theorem u64_x (x y : BitVec 32) : bits .or .u64 (U32 x) (IntKind.u64.wrap (U32 y * 4294967296)) = U64 (BitVec.ofNat 64 (x.toNat + 4294967296 * y.toNat)) := by
  have hx := x.isLt
  have hy := y.isLt
  rw [or_U64, IntKind.wrap_u64, Int.emod_eq_of_lt (by unfold U32; omega) (by unfold U32; omega)]
  congr 1
  apply BitVec.eq_of_toNat_eq
  rw [BitVec.toNat_or, BitVec.toNat_ofNat, show U32 y * 4294967296 = ((y.toNat * 4294967296 : Nat) : Int) from by unfold U32; omega]
  unfold U32
  rw [BitVec.ofInt_natCast, BitVec.ofInt_natCast, BitVec.toNat_ofNat, BitVec.toNat_ofNat, Nat.mod_eq_of_lt (by omega), Nat.mod_eq_of_lt (by omega), Nat.mod_eq_of_lt (by omega), Nat.or_comm]
  have := Nat.two_pow_add_eq_or_of_lt (i := 32) hx y.toNat
  rw [show (2 : Nat) ^ 32 = 4294967296 from rfl] at this
  rw [Nat.mul_comm y.toNat, ← this]; omega
/-- So many bits a number has. -/
def bl (n : Nat) : Nat := if n = 0 then 0 else Nat.log2 n + 1
theorem bl_le (n k : Nat) : bl n ≤ k ↔ n < 2 ^ k := by
  unfold bl
  split
  · subst_vars; simp; exact Nat.two_pow_pos k
  · rename_i h
    rw [Nat.succ_le_iff, Nat.log2_lt h]
theorem bl_of (n b : Nat) (h1 : n < 2 ^ b) (h2 : 0 < b → 2 ^ (b - 1) ≤ n) : bl n = b := by
  apply Nat.le_antisymm
  · exact (bl_le n b).2 h1
  · rcases Nat.eq_zero_or_pos b with h | h
    · omega
    · have := h2 h
      rcases Nat.lt_or_ge (bl n) b with h' | h'
      · have := (bl_le n (b - 1)).1 (by omega); omega
      · exact h'
theorem bl_top (l : List (BitVec 32)) (x : BitVec 32) (j b : Nat) (hx : x.toNat / 2 ^ b = 0) (hj : 0 < b → 2 ^ (b - 1) ≤ x.toNat) (h0 : x ≠ 0#32) : bl (val (l ++ [x])) = 32 * l.length + b := by
  have hv := val_lt l
  rw [pw_eq] at hv
  have hx1 : x.toNat < 2 ^ b := by
    rcases Nat.lt_or_ge x.toNat (2 ^ b) with h | h
    · exact h
    · have := Nat.div_pos h (Nat.two_pow_pos b); omega
  have hp : 0 < x.toNat := by
    rcases Nat.eq_zero_or_pos x.toNat with h' | h'
    · exact absurd (BitVec.eq_of_toNat_eq (by simpa using h')) h0
    · exact h'
  have hb : 0 < b := by
    rcases Nat.eq_zero_or_pos b with h | h
    · subst h; simp at hx1; omega
    · exact h
  rw [val_snoc, pw_eq]
  apply bl_of
  · rw [Nat.pow_add]
    have : 2 ^ (32 * l.length) * x.toNat + 2 ^ (32 * l.length) ≤ 2 ^ (32 * l.length) * 2 ^ b := by rw [← Nat.mul_succ]; exact Nat.mul_le_mul_left _ hx1
    omega
  · intro _
    rw [show 32 * l.length + b - 1 = 32 * l.length + (b - 1) by omega, Nat.pow_add]
    have := Nat.mul_le_mul_left (2 ^ (32 * l.length)) (hj hb)
    omega
theorem shr1_x (x : BitVec 32) (j : Nat) : U32 (x >>> j) / (2 : Int) = U32 (x >>> (j + 1)) := by
  rw [BitVec.shiftRight_add, ← shr_U32 (x >>> j) 1]; rfl
def fits (z : Int) : Prop := 0 ≤ z ∧ z < 18446744073709551616
instance (z : Int) : Decidable (fits z) := by unfold fits; infer_instance
def smallV (z : Int) : Value := if fits z then .tuple #[.int .u64 (U64 (BitVec.ofNat 64 z.toNat)), .bool true] else .tuple #[.int .u64 0, .bool false]
theorem smallV_yes {z : Int} (h : fits z) : smallV z = .tuple #[.int .u64 (U64 (BitVec.ofNat 64 z.toNat)), .bool true] := if_pos h
theorem smallV_no {z : Int} (h : ¬ fits z) : smallV z = .tuple #[.int .u64 0, .bool false] := if_neg h
def fitV (z : Int) : Value := if fits z then .tuple #[.int .u64 (U64 (BitVec.ofNat 64 z.toNat)), .int .i64 0] else .tuple #[.int .u64 0, .int .i64 10]
theorem fitV_yes {z : Int} (h : fits z) : fitV z = .tuple #[.int .u64 (U64 (BitVec.ofNat 64 z.toNat)), .int .i64 0] := if_pos h
theorem fitV_no {z : Int} (h : ¬ fits z) : fitV z = .tuple #[.int .u64 0, .int .i64 10] := if_neg h
end Go.Proofs.Ytpikmcapnmdmbaa.n01
/-
  Layer 1: the document's numbers of any length: their sums.
-/
namespace Go.Proofs.Ytpikmcapnmdmbaa.n01
open Go.RowKit Go.K Go.Words
set_option linter.unusedVariables false
set_option linter.unusedSimpArgs false

theorem IntAt.mk' {W : World} {g : Nat} {b : Bool} {ad : Option Addr} {cap : Nat} {o : List (BitVec 32)} {z : Int} (hrow : W.heap[g]? = some (.cells #[.bool (b && decide (0 < o.length)), .slice ad o.length cap] 82)) (hs : Sl W ad (vW o)) (hn : norm o) (hc : o.length ≤ cap)
    (hz : z = if b = true then -(val o : Int) else (val o : Int)) : IntAt W g z := by
  refine ⟨_, ad, cap, o, hrow, hs, hn, hc, ?_, ?_⟩
  · rw [hz]
    cases b
    · rfl
    · by_cases h : 0 < o.length
      · simp [h]
      · have : o = [] := List.eq_nil_of_length_eq_zero (by omega)
        subst this; simp [val]
  · intro h
    simp at h
    exact List.length_pos_iff.1 h.2
/-- A number in memory whose words lie in a block of a kind. -/
def IntP (P : Nat → Prop) (W : World) (g : Nat) (z : Int) : Prop := ∃ (bl : Bool) (ad : Option Addr) (cap : Nat) (l : List (BitVec 32)), W.heap[g]? = some (.cells #[.bool bl, .slice ad l.length cap] 82) ∧ Sl W ad (vW l) ∧ norm l ∧ l.length ≤ cap ∧ z = (if bl = true then -(val l : Int) else (val l : Int)) ∧ (bl = true → l ≠ []) ∧ ∀ x, ad = some x → l ≠ [] → P x.block
theorem IntP.at' {P : Nat → Prop} {W : World} {g : Nat} {z : Int} (h : IntP P W g z) : IntAt W g z := by
  obtain ⟨b, a, c, l, h1, h2, h3, h4, h5, h6, _⟩ := h
  exact ⟨b, a, c, l, h1, h2, h3, h4, h5, h6⟩
theorem IntP.mono {P Q : Nat → Prop} {W : World} {g : Nat} {z : Int} (h : IntP P W g z) (hPQ : ∀ b, b < W.heap.size → P b → Q b) : IntP Q W g z := by
  obtain ⟨b, a, c, l, h1, h2, h3, h4, h5, h6, h7⟩ := h
  exact ⟨b, a, c, l, h1, h2, h3, h4, h5, h6, fun x hx hl => hPQ _ (h2.lt x hx (fun e => hl (by cases l with | nil => rfl | cons a t => simp [vW] at e))) (h7 x hx hl)⟩
theorem IntAt.p {W : World} {g : Nat} {z : Int} (h : IntAt W g z) : IntP (fun b => b < W.heap.size ∧ ∀ r, IsInt W r → b ≠ r) W g z := by
  obtain ⟨b, a, c, l, h1, h2, h3, h4, h5, h6⟩ := h
  refine ⟨b, a, c, l, h1, h2, h3, h4, h5, h6, fun x hx hl => ?_⟩
  have hne : vW l ≠ [] := fun e => hl (by cases l with | nil => rfl | cons a t => simp [vW] at e)
  refine ⟨h2.lt x hx hne, fun r hr => ?_⟩
  obtain ⟨b2, o2, he, hc⟩ := h2 hne
  rw [he] at hx
  cases hx
  exact words_away hr hl hc
/-- A number in memory, opened. -/
structure Op1 (w : World) (g : Nat) (b : Bool) (ad : Option Addr) (cap : Nat) (l : List (BitVec 32)) : Prop where
  row : w.heap[g]? = some (.cells #[.bool b, .slice ad l.length cap] 82)
  sl : Sl w ad (vW l)
  nm : norm l
  le : l.length ≤ cap
  sh : l.length ≤ 900
theorem Op1.c0 {w : World} {g : Nat} {b : Bool} {ad : Option Addr} {cap : Nat} {l : List (BitVec 32)} (h : Op1 w g b ad cap l) : w.cell? ⟨g, 0, none⟩ = some (.bool b) := by rw [cell_of_row _ _ _ _ _ _ h.row]; rfl
theorem Op1.c1 {w : World} {g : Nat} {b : Bool} {ad : Option Addr} {cap : Nat} {l : List (BitVec 32)} (h : Op1 w g b ad cap l) : w.cell? ⟨g, 1, none⟩ = some (.slice ad l.length cap) := by rw [cell_of_row _ _ _ _ _ _ h.row]; rfl
def sg (b : Bool) (n : Nat) : Int := if b = true then -(n : Int) else n
theorem IntAt.open {w : World} {g : Nat} {z : Int} (h : IntAt w g z) (hz : z.natAbs < pw 900) : ∃ b ad cap l, Op1 w g b ad cap l ∧ z = sg b (val l) ∧ z.natAbs = val l := by
  obtain ⟨b, a, c, l, row, sl, n, le, e, q⟩ := h
  have hv : z.natAbs = val l := by rw [e]; split <;> omega
  exact ⟨b, a, c, l, ⟨row, sl, n, le, len_le l n 900 (by rw [← hv]; exact hz)⟩, e, hv⟩
theorem sl_heap {w W : World} {a : Option Addr} {vs : List Value} (h : Sl w a vs) (hh : W.heap = w.heap) : Sl W a vs := by
  intro hne
  obtain ⟨b, off, e, hc⟩ := h hne
  exact ⟨b, off, e, fun i hi => by rw [← hc i hi]; unfold World.cell?; rw [hh]⟩
theorem isInt_heap {w W : World} {g : Nat} (h : IsInt w g) (hh : W.heap = w.heap) : IsInt W g := by
  obtain ⟨q1, q2, q3, q4, q5⟩ := h; exact ⟨q1, q2, q3, q4, by rw [hh]; exact q5⟩
theorem intP_mk {P : Nat → Prop} {W : World} {g n cap : Nat} {z : Int} {bl : Bool} {ad : Option Addr} {t : TypeId} (h : IntAt W g z) (hrow : W.heap[g]? = some (.cells #[.bool bl, .slice ad n cap] t)) (hP : ∀ x, ad = some x → n = n → P x.block) : IntP P W g z := by
  obtain ⟨b, a, c, l, h1, h2, h3, h4, h5, h6⟩ := h
  refine ⟨b, a, c, l, h1, h2, h3, h4, h5, h6, fun x hx _ => ?_⟩
  rw [hrow] at h1
  injection h1 with e1
  injection e1 with e2
  simp at e2
  exact hP x (e2.2.1.trans hx) rfl
theorem add_fin {w W0 w1 w2 : World} {gn : Nat} {b : Bool} {ad : Option Addr} {cap : Nat} {o : List (BitVec 32)} {z : Int} (hb : Below W0.heap.size W0 w1) (hgr : w1.grownBy w2 (some gn)) (hrow : w2.heap[gn]? = some (.cells #[.bool (b && decide (0 < o.length)), .slice ad o.length cap] 82))
    (hso : SlN W0.heap.size w1 ad o) (hnm : norm o) (hcap : o.length ≤ cap) (hI : IsInt w gn) (hz : z = sg b (val o)) (hq : Qt w W0) : w.grownBy w2 (some gn) ∧ IntP (w.heap.size ≤ ·) w2 gn z := by
  have hI0 : IsInt w1 gn := (isInt_heap hI hq.heap).kept hb
  exact ⟨grown_trans (grown_trans (grown_below (hq.below _) _) (grown_below hb _)) hgr, intP_mk (IntAt.mk' hrow (sl_awayInt hI0 hgr hso.sl) hnm hcap hz) hrow (fun x hx _ => by have h := hso.ge x hx; rw [hq.heap] at h; exact h)⟩
set_option maxRecDepth 100000 in
set_option maxHeartbeats 1000000 in
theorem add_same (gn gx gy : Nat) (b1 : Bool) (a1 a2 : Option Addr) (c1 c2 : Nat) (l1 l2 : List (BitVec 32)) (w : World) (hn : IsInt w gn) (hx : Op1 w gx b1 a1 c1 l1) (hy : Op1 w gy b1 a2 c2 l2) :
    Calls Try.prog 55 #[.pointer (some ⟨gn, 0, none⟩), .pointer (some ⟨gx, 0, none⟩), .pointer (some ⟨gy, 0, none⟩)] w fun e w' => e = .returned (.pointer (some ⟨gn, 0, none⟩)) ∧ w.grownBy w' (some gn) ∧ IntP (w.heap.size ≤ ·) w' gn (sg b1 (val l1 + val l2)) := by
  have x0 := hx.c0
  have x1 := hx.c1
  have y0 := hy.c0
  have y1 := hy.c1
  have z1 := hx.sh
  have z2 := hy.sh
  have S1 := Lib.hid (show ∀ W : World, W.heap = w.heap → Sl W a1 (vW l1) from fun W h => sl_heap hx.sl h)
  have S2 := Lib.hid (show ∀ W : World, W.heap = w.heap → Sl W a2 (vW l2) from fun W h => sl_heap hy.sl h)
  have HI := Lib.hid (show ∀ W W1 : World, Below W.heap.size W W1 → W.heap = w.heap → IsInt W1 gn from fun W W1 hb h => (isInt_heap hn h).kept hb)
  have t0 : (b1 == b1) = true := by simp
  have HN := Lib.hid hn
  clear hn hx hy
  go_enter Try.func55, Try.ntmps55
  go_wp2
  go_quiet (fail)
  go_wp2
  go_region_with
    (first
      | (go_at_call 64; refine (plus_any a1 a2 c1 c2 l1 l2 _ ?_ ?_ ?_ ?_).mono ?_; exact S1.out _ rfl; exact S2.out _ rfl; omega; omega; rintro e w1 ⟨ad, cap, o, rfl, hcap, hnm, hv, hso, hb⟩; have x05 := below_cell hb (a := ⟨gx, 0, none⟩) (v := .bool b1) (by go_keep))
      | (go_at_call 63; refine (signed_any gn b1 ad o.length cap _ ?_).mono ?_; exact HI.out _ _ hb rfl; rintro e w2 ⟨rfl, hgr, hrow⟩))
  all_goals
    have G1 := Lib.hid hb
    have G2 := Lib.hid hgr
    have G3 := Lib.hid hrow
    have G4 := Lib.hid hso
    have G5 := Lib.hid hnm
    have G6 := Lib.hid hv
    clear hb hgr hrow hso hnm hv
    go_wp2
    go_ret
    exact ⟨rfl, add_fin G1.out G2.out G3.out G4.out G5.out hcap HN.out (by rw [G6.out]) ⟨_, rfl⟩⟩
set_option maxRecDepth 100000 in
set_option maxHeartbeats 1000000 in
theorem add_diff (gn gx gy : Nat) (b1 b2 : Bool) (a1 a2 : Option Addr) (c1 c2 : Nat) (l1 l2 : List (BitVec 32)) (w : World) (hn : IsInt w gn) (hx : Op1 w gx b1 a1 c1 l1) (hy : Op1 w gy b2 a2 c2 l2) (hb12 : (b1 == b2) = false) (hle : val l2 ≤ val l1) :
    Calls Try.prog 55 #[.pointer (some ⟨gn, 0, none⟩), .pointer (some ⟨gx, 0, none⟩), .pointer (some ⟨gy, 0, none⟩)] w fun e w' => e = .returned (.pointer (some ⟨gn, 0, none⟩)) ∧ w.grownBy w' (some gn) ∧ IntP (w.heap.size ≤ ·) w' gn (sg b1 (val l1 - val l2)) := by
  have x0 := hx.c0
  have x1 := hx.c1
  have y0 := hy.c0
  have y1 := hy.c1
  have z1 := hx.sh
  have z2 := hy.sh
  have S1 := Lib.hid (show ∀ W : World, W.heap = w.heap → Sl W a1 (vW l1) from fun W h => sl_heap hx.sl h)
  have S2 := Lib.hid (show ∀ W : World, W.heap = w.heap → Sl W a2 (vW l2) from fun W h => sl_heap hy.sl h)
  have HI := Lib.hid (show ∀ W W1 : World, Below W.heap.size W W1 → W.heap = w.heap → IsInt W1 gn from fun W W1 hb h => (isInt_heap hn h).kept hb)
  have HL := Lib.hid (len_mono l2 l1 hy.nm hle)
  have HLE := Lib.hid hle
  have N1 := Lib.hid hx.nm
  have N2 := Lib.hid hy.nm
  have t1 : decide (0 ≤ cmpZ (val l1) (val l2)) = true := decide_eq_true (by unfold cmpZ; rw [if_neg (by omega)]; split <;> decide)
  have HN := Lib.hid hn
  clear hn hx hy hle
  go_enter Try.func55, Try.ntmps55
  go_wp2
  go_quiet (fail)
  go_wp2
  refine wp_region_inv 10 (fun W => Qt w W) (by kernel_rfl) (by kernel_rfl) (fun n => ⟨n, rfl⟩) ?_
  simp only [List.take_succ_cons, List.take_zero]
  iterate 10
    apply wpInv_cons
    · rfl
    · intro Wx hw
      have k1 := (hw.cell ⟨gx, 1, none⟩).trans x1
      have k2 := (hw.cell ⟨gy, 1, none⟩).trans y1
      go_simp
      first
        | exact ⟨hw, rfl⟩
        | (show Calls _ _ _ _ _; with_reducible exact (against_any a1 a2 c1 c2 l1 l2 _ (S1.out _ hw.heap) (S2.out _ hw.heap) (by omega) (by omega) N1.out N2.out).mono (fun e w' ⟨he, hq⟩ => ⟨he, hw.trans hq⟩))
    simp only [Act.put, List.setIfInBounds_toArray, List.set_cons_zero, List.set_cons_succ]
  refine wpInv_nil fun W hw => ?_
  simp only [List.drop_succ_cons, List.drop_zero]
  have k0 := (hw.cell ⟨gx, 0, none⟩).trans x0
  have k1 := (hw.cell ⟨gx, 1, none⟩).trans x1
  have k2 := (hw.cell ⟨gy, 1, none⟩).trans y1
  have S1' := Lib.hid (show ∀ V : World, V.heap = W.heap → Sl V a1 (vW l1) from fun V h => S1.out V (h.trans hw.heap))
  have S2' := Lib.hid (show ∀ V : World, V.heap = W.heap → Sl V a2 (vW l2) from fun V h => S2.out V (h.trans hw.heap))
  have HI' := Lib.hid (show ∀ V W1 : World, Below V.heap.size V W1 → V.heap = W.heap → IsInt W1 gn from fun V W1 hb h => HI.out V W1 hb (h.trans hw.heap))
  have HQ := Lib.hid hw
  clear x0 x1 y0 y1 S1 S2 HI hw
  go_wp2
  go_region_with
    (first
      | (go_at_call 66; refine (minus_any a1 a2 c1 c2 l1 l2 _ ?_ ?_ ?_ ?_ ?_ ?_).mono ?_; exact S1'.out _ rfl; exact S2'.out _ rfl; omega; omega; exact HL.out; exact HLE.out; rintro e w1 ⟨ad, cap, o, rfl, hcap, hnm, hv, hso, hb⟩; have x05 := below_cell hb (a := ⟨gx, 0, none⟩) (v := .bool b1) (by go_keep))
      | (go_at_call 63; refine (signed_any gn b1 ad o.length cap _ ?_).mono ?_; exact HI'.out _ _ hb rfl; rintro e w2 ⟨rfl, hgr, hrow⟩))
  all_goals
    have G1 := Lib.hid hb
    have G2 := Lib.hid hgr
    have G3 := Lib.hid hrow
    have G4 := Lib.hid hso
    have G5 := Lib.hid hnm
    have G6 := Lib.hid hv
    clear hb hgr hrow hso hnm hv
    go_wp2
    go_ret
    exact ⟨rfl, add_fin G1.out G2.out G3.out G4.out G5.out hcap HN.out (by rw [G6.out]) (HQ.out.trans ⟨_, rfl⟩)⟩
end Go.Proofs.Ytpikmcapnmdmbaa.n01
/-
  Layer 1: the document's numbers of any length: any two added, taken away; sums of lists.
-/
namespace Go.Proofs.Ytpikmcapnmdmbaa.n01
open Go.RowKit Go.K Go.Words
set_option linter.unusedVariables false
set_option linter.unusedSimpArgs false

set_option maxRecDepth 100000 in
set_option maxHeartbeats 1000000 in
theorem add_diff2 (gn gx gy : Nat) (b1 b2 : Bool) (a1 a2 : Option Addr) (c1 c2 : Nat) (l1 l2 : List (BitVec 32)) (w : World) (hn : IsInt w gn) (hx : Op1 w gx b1 a1 c1 l1) (hy : Op1 w gy b2 a2 c2 l2) (hb12 : (b1 == b2) = false) (hle : val l1 < val l2) :
    Calls Try.prog 55 #[.pointer (some ⟨gn, 0, none⟩), .pointer (some ⟨gx, 0, none⟩), .pointer (some ⟨gy, 0, none⟩)] w fun e w' => e = .returned (.pointer (some ⟨gn, 0, none⟩)) ∧ w.grownBy w' (some gn) ∧ IntP (w.heap.size ≤ ·) w' gn (sg b2 (val l2 - val l1)) := by
  have x0 := hx.c0
  have x1 := hx.c1
  have y0 := hy.c0
  have y1 := hy.c1
  have z1 := hx.sh
  have z2 := hy.sh
  have S1 := Lib.hid (show ∀ W : World, W.heap = w.heap → Sl W a1 (vW l1) from fun W h => sl_heap hx.sl h)
  have S2 := Lib.hid (show ∀ W : World, W.heap = w.heap → Sl W a2 (vW l2) from fun W h => sl_heap hy.sl h)
  have HI := Lib.hid (show ∀ W W1 : World, Below W.heap.size W W1 → W.heap = w.heap → IsInt W1 gn from fun W W1 hb h => (isInt_heap hn h).kept hb)
  have HL := Lib.hid (len_mono l1 l2 hx.nm (Nat.le_of_lt hle))
  have HLE := Lib.hid (Nat.le_of_lt hle)
  have N1 := Lib.hid hx.nm
  have N2 := Lib.hid hy.nm
  have t1 : decide (0 ≤ cmpZ (val l1) (val l2)) = false := decide_eq_false (by unfold cmpZ; rw [if_pos hle]; decide)
  have HN := Lib.hid hn
  clear hn hx hy hle
  go_enter Try.func55, Try.ntmps55
  go_wp2
  go_quiet (fail)
  go_wp2
  refine wp_region_inv 10 (fun W => Qt w W) (by kernel_rfl) (by kernel_rfl) (fun n => ⟨n, rfl⟩) ?_
  simp only [List.take_succ_cons, List.take_zero]
  iterate 10
    apply wpInv_cons
    · rfl
    · intro Wx hw
      have k1 := (hw.cell ⟨gx, 1, none⟩).trans x1
      have k2 := (hw.cell ⟨gy, 1, none⟩).trans y1
      go_simp
      first
        | exact ⟨hw, rfl⟩
        | (show Calls _ _ _ _ _; with_reducible exact (against_any a1 a2 c1 c2 l1 l2 _ (S1.out _ hw.heap) (S2.out _ hw.heap) (by omega) (by omega) N1.out N2.out).mono (fun e w' ⟨he, hq⟩ => ⟨he, hw.trans hq⟩))
    simp only [Act.put, List.setIfInBounds_toArray, List.set_cons_zero, List.set_cons_succ]
  refine wpInv_nil fun W hw => ?_
  simp only [List.drop_succ_cons, List.drop_zero]
  have k0 := (hw.cell ⟨gy, 0, none⟩).trans y0
  have k1 := (hw.cell ⟨gx, 1, none⟩).trans x1
  have k2 := (hw.cell ⟨gy, 1, none⟩).trans y1
  have S1' := Lib.hid (show ∀ V : World, V.heap = W.heap → Sl V a1 (vW l1) from fun V h => S1.out V (h.trans hw.heap))
  have S2' := Lib.hid (show ∀ V : World, V.heap = W.heap → Sl V a2 (vW l2) from fun V h => S2.out V (h.trans hw.heap))
  have HI' := Lib.hid (show ∀ V W1 : World, Below V.heap.size V W1 → V.heap = W.heap → IsInt W1 gn from fun V W1 hb h => HI.out V W1 hb (h.trans hw.heap))
  have HQ := Lib.hid hw
  clear x0 x1 y0 y1 S1 S2 HI hw
  go_wp2
  go_region_with
    (first
      | (go_at_call 66; refine (minus_any a2 a1 c2 c1 l2 l1 _ ?_ ?_ ?_ ?_ ?_ ?_).mono ?_; exact S2'.out _ rfl; exact S1'.out _ rfl; omega; omega; exact HL.out; exact HLE.out; rintro e w1 ⟨ad, cap, o, rfl, hcap, hnm, hv, hso, hb⟩; have x05 := below_cell hb (a := ⟨gy, 0, none⟩) (v := .bool b2) (by go_keep))
      | (go_at_call 63; refine (signed_any gn b2 ad o.length cap _ ?_).mono ?_; exact HI'.out _ _ hb rfl; rintro e w2 ⟨rfl, hgr, hrow⟩))
  all_goals
    have G1 := Lib.hid hb
    have G2 := Lib.hid hgr
    have G3 := Lib.hid hrow
    have G4 := Lib.hid hso
    have G5 := Lib.hid hnm
    have G6 := Lib.hid hv
    clear hb hgr hrow hso hnm hv
    go_wp2
    go_ret
    exact ⟨rfl, add_fin G1.out G2.out G3.out G4.out G5.out hcap HN.out (by rw [G6.out]) (HQ.out.trans ⟨_, rfl⟩)⟩
theorem add_new (gn gx gy : Nat) (x y : Int) (w : World) (hn : IsInt w gn) (hx : IntAt w gx x) (hy : IntAt w gy y) (bx : x.natAbs < pw 900) (by' : y.natAbs < pw 900) :
    Calls Try.prog 55 #[.pointer (some ⟨gn, 0, none⟩), .pointer (some ⟨gx, 0, none⟩), .pointer (some ⟨gy, 0, none⟩)] w fun e w' => e = .returned (.pointer (some ⟨gn, 0, none⟩)) ∧ w.grownBy w' (some gn) ∧ IntP (w.heap.size ≤ ·) w' gn (x + y) := by
  obtain ⟨b1, a1, c1, l1, o1, e1, v1⟩ := hx.open bx
  obtain ⟨b2, a2, c2, l2, o2, e2, v2⟩ := hy.open by'
  by_cases hb : b1 = b2
  · subst hb
    refine (add_same gn gx gy b1 a1 a2 c1 c2 l1 l2 w hn o1 o2).mono fun e w' ⟨h1, h2, h3⟩ => ⟨h1, h2, ?_⟩
    have : x + y = sg b1 (val l1 + val l2) := by rw [e1, e2]; unfold sg; split <;> omega
    rw [this]; exact h3
  · have hb' : (b1 == b2) = false := by simpa using hb
    by_cases hle : val l2 ≤ val l1
    · refine (add_diff gn gx gy b1 b2 a1 a2 c1 c2 l1 l2 w hn o1 o2 hb' hle).mono fun e w' ⟨h1, h2, h3⟩ => ⟨h1, h2, ?_⟩
      have : x + y = sg b1 (val l1 - val l2 : Nat) := by
        rw [e1, e2]; unfold sg
        cases b1 <;> cases b2 <;> simp at hb ⊢ <;> omega
      rw [this]; exact h3
    · refine (add_diff2 gn gx gy b1 b2 a1 a2 c1 c2 l1 l2 w hn o1 o2 hb' (by omega)).mono fun e w' ⟨h1, h2, h3⟩ => ⟨h1, h2, ?_⟩
      have : x + y = sg b2 (val l2 - val l1 : Nat) := by
        rw [e1, e2]; unfold sg
        cases b1 <;> cases b2 <;> simp at hb ⊢ <;> omega
      rw [this]; exact h3
theorem add_any (gn gx gy : Nat) (x y : Int) (w : World) (hn : IsInt w gn) (hx : IntAt w gx x) (hy : IntAt w gy y) (bx : x.natAbs < pw 900) (by' : y.natAbs < pw 900) :
    Calls Try.prog 55 #[.pointer (some ⟨gn, 0, none⟩), .pointer (some ⟨gx, 0, none⟩), .pointer (some ⟨gy, 0, none⟩)] w fun e w' => e = .returned (.pointer (some ⟨gn, 0, none⟩)) ∧ w.grownBy w' (some gn) ∧ IntAt w' gn (x + y) :=
  (add_new gn gx gy x y w hn hx hy bx by').mono fun e w' ⟨h1, h2, h3⟩ => ⟨h1, h2, h3.at'⟩
end Go.Proofs.Ytpikmcapnmdmbaa.n01
/-
  Layer 1: the document's numbers of any length: compared.
-/
namespace Go.Proofs.Ytpikmcapnmdmbaa.n01
open Go.RowKit Go.K Go.Words
set_option linter.unusedVariables false
set_option linter.unusedSimpArgs false

def cmpI (x y : Int) : Int := if x < y then -1 else if y < x then 1 else 0
theorem cmpZ_pos (a b : Nat) : cmpI (a : Int) (b : Int) = cmpZ a b := by
  unfold cmpI cmpZ
  by_cases h : a < b
  · rw [if_pos (by omega), if_pos h]
  · by_cases h' : b < a
    · rw [if_neg (by omega), if_neg h, if_pos (by omega), if_pos h']
    · rw [if_neg (by omega), if_neg h, if_neg (by omega), if_neg h']
theorem cmpZ_neg (a b : Nat) : cmpI (-(a : Int)) (-(b : Int)) = cmpZ b a := by
  unfold cmpI cmpZ
  by_cases h : b < a
  · rw [if_pos (by omega), if_pos h]
  · by_cases h' : a < b
    · rw [if_neg (by omega), if_neg h, if_pos (by omega), if_pos h']
    · rw [if_neg (by omega), if_neg h, if_neg (by omega), if_neg h']
set_option maxHeartbeats 1000000 in
theorem cmp_any (gx gy : Nat) (x y : Int) (w : World) (hx : IntAt w gx x) (hy : IntAt w gy y) (bx : x.natAbs < pw 900) (by' : y.natAbs < pw 900) :
    Calls Try.prog 57 #[.pointer (some ⟨gx, 0, none⟩), .pointer (some ⟨gy, 0, none⟩)] w fun e w' => e = .returned (.int .i64 (cmpI x y)) ∧ Qt w w' := by
  obtain ⟨b1, a1, c1, l1, r1, s1, n1, le1, e1, q1⟩ := hx
  obtain ⟨b2, a2, c2, l2, r2, s2, n2, le2, e2, q2⟩ := hy
  have v1 : x.natAbs = val l1 := by rw [e1]; split <;> omega
  have v2 : y.natAbs = val l2 := by rw [e2]; split <;> omega
  have h1 := len_le l1 n1 900 (by rw [← v1]; exact bx)
  have h2 := len_le l2 n2 900 (by rw [← v2]; exact by')
  have x0 : w.cell? ⟨gx, 0, none⟩ = some (.bool b1) := by rw [cell_of_row _ _ _ _ _ _ r1]; rfl
  have x1 : w.cell? ⟨gx, 1, none⟩ = some (.slice a1 l1.length c1) := by rw [cell_of_row _ _ _ _ _ _ r1]; rfl
  have y0 : w.cell? ⟨gy, 0, none⟩ = some (.bool b2) := by rw [cell_of_row _ _ _ _ _ _ r2]; rfl
  have y1 : w.cell? ⟨gy, 1, none⟩ = some (.slice a2 l2.length c2) := by rw [cell_of_row _ _ _ _ _ _ r2]; rfl
  have K1 := Lib.hid (show ∀ W : World, Qt w W → Calls Try.prog 65 #[.slice a1 l1.length c1, .slice a2 l2.length c2] W fun e w' => e = .returned (.int .i64 (cmpZ (val l1) (val l2))) ∧ Qt w w' from
    fun W hW => (against_any a1 a2 c1 c2 l1 l2 W (hW.sl s1) (hW.sl s2) (by omega) (by omega) n1 n2).mono fun e w' ⟨he, hq⟩ => ⟨he, hW.trans hq⟩)
  have K2 := Lib.hid (show ∀ W : World, Qt w W → Calls Try.prog 65 #[.slice a2 l2.length c2, .slice a1 l1.length c1] W fun e w' => e = .returned (.int .i64 (cmpZ (val l2) (val l1))) ∧ Qt w w' from
    fun W hW => (against_any a2 a1 c2 c1 l2 l1 W (hW.sl s2) (hW.sl s1) (by omega) (by omega) n2 n1).mono fun e w' ⟨he, hq⟩ => ⟨he, hW.trans hq⟩)
  have Z1 := Lib.hid (val_zero l1 n1)
  have Z2 := Lib.hid (val_zero l2 n2)
  have E1 := Lib.hid e1
  have E2 := Lib.hid e2
  have Q1 := Lib.hid q1
  have Q2 := Lib.hid q2
  clear r1 s1 n1 le1 e1 q1 r2 s2 n2 le2 e2 q2 v1 v2 bx by'
  cases b1 <;> cases b2
  · have HZ := Lib.hid (show cmpI x y = cmpZ (val l1) (val l2) by rw [E1.out, E2.out]; exact cmpZ_pos _ _)
    go_enter Try.func57, Try.ntmps57
    go_wp2
    go_quiet (fail)
    generalize hW : w.drewN nq = W at *
    have HQ : Qt w W := hW ▸ Qt.drewN w nq
    have k0 := (HQ.cell ⟨gx, 0, none⟩).trans x0
    clear hW
    go_wp2
    refine wp_region_inv 9 (fun V => Qt w V) (by kernel_rfl) (by kernel_rfl) (fun n => HQ.trans ⟨n, rfl⟩) ?_
    simp only [List.take_succ_cons, List.take_zero]
    iterate 9
      apply wpInv_cons
      · rfl
      · intro Wx hw
        have k1 := (hw.cell ⟨gx, 1, none⟩).trans x1
        have k2 := (hw.cell ⟨gy, 1, none⟩).trans y1
        go_simp
        first
          | exact ⟨hw, rfl⟩
          | (show Calls _ _ _ _ _; with_reducible exact K1.out _ hw)
      simp only [Act.put, List.setIfInBounds_toArray, List.set_cons_zero, List.set_cons_succ]
    refine wpInv_nil fun V hw => ?_
    simp only [List.drop_succ_cons, List.drop_zero]
    go_wp2
    go_ret
    exact ⟨by rw [HZ.out]; rfl, hw⟩
  · have HZ := Lib.hid (show cmpI x y = 1 by
      have hp : val l2 ≠ 0 := fun h => absurd (Z2.out.1 h) (Q2.out rfl)
      rw [E1.out, E2.out]; unfold cmpI
      rw [if_neg (by simp <;> omega), if_pos (by simp <;> omega)])
    go_enter Try.func57, Try.ntmps57
    go_wp2
    go_quiet (fail)
    generalize hW : w.drewN nq = W at *
    have HQ : Qt w W := hW ▸ Qt.drewN w nq
    have k0 := (HQ.cell ⟨gx, 0, none⟩).trans x0
    clear hW
    go_wp2
    go_ret
    exact ⟨by rw [HZ.out]; rfl, HQ⟩
  · have HZ := Lib.hid (show cmpI x y = -1 by
      have hp : val l1 ≠ 0 := fun h => absurd (Z1.out.1 h) (Q1.out rfl)
      rw [E1.out, E2.out]; unfold cmpI
      rw [if_pos (by simp <;> omega)])
    go_enter Try.func57, Try.ntmps57
    go_wp2
    go_quiet (fail)
    generalize hW : w.drewN nq = W at *
    have HQ : Qt w W := hW ▸ Qt.drewN w nq
    have k0 := (HQ.cell ⟨gx, 0, none⟩).trans x0
    clear hW
    go_wp2
    go_ret
    exact ⟨by rw [HZ.out]; rfl, HQ⟩
  · have HZ := Lib.hid (show cmpI x y = cmpZ (val l2) (val l1) by rw [E1.out, E2.out]; exact cmpZ_neg _ _)
    go_enter Try.func57, Try.ntmps57
    go_wp2
    go_quiet (fail)
    generalize hW : w.drewN nq = W at *
    have HQ : Qt w W := hW ▸ Qt.drewN w nq
    have k0 := (HQ.cell ⟨gx, 0, none⟩).trans x0
    clear hW
    go_wp2
    refine wp_region_inv 9 (fun V => Qt w V) (by kernel_rfl) (by kernel_rfl) (fun n => HQ.trans ⟨n, rfl⟩) ?_
    simp only [List.take_succ_cons, List.take_zero]
    iterate 9
      apply wpInv_cons
      · rfl
      · intro Wx hw
        have k1 := (hw.cell ⟨gx, 1, none⟩).trans x1
        have k2 := (hw.cell ⟨gy, 1, none⟩).trans y1
        go_simp
        first
          | exact ⟨hw, rfl⟩
          | (show Calls _ _ _ _ _; with_reducible exact K2.out _ hw)
      simp only [Act.put, List.setIfInBounds_toArray, List.set_cons_zero, List.set_cons_succ]
    refine wpInv_nil fun V hw => ?_
    simp only [List.drop_succ_cons, List.drop_zero]
    go_wp2
    go_ret
    exact ⟨by rw [HZ.out]; rfl, hw⟩
end Go.Proofs.Ytpikmcapnmdmbaa.n01
