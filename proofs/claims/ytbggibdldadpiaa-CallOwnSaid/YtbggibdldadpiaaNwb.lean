/-
  Layer 1: the document's numbers of any length, walked: made, told, added.
-/
import Derived.Test.YtbggibdldadpiaaNwa
import Derived.Deep.RegionHeld3
import Derived.Test.YtbggibdldadpiaaGen
namespace Go.Proofs.Ytbggibdldadpiaa.n01
open Go.RowKit Go.K Go.Words
set_option linter.unusedVariables false
set_option linter.unusedSimpArgs false

/-- A block of a number: whether it is below 0, its words. -/
def IsInt (W : World) (g : Nat) : Prop := ∃ bl ad n cap, W.heap[g]? = some (.cells #[.bool bl, .slice ad n cap] 73)
def IntAt (W : World) (g : Nat) (z : Int) : Prop := ∃ (bl : Bool) (ad : Option Addr) (cap : Nat) (l : List (BitVec 32)), W.heap[g]? = some (.cells #[.bool bl, .slice ad l.length cap] 73) ∧ Sl W ad (vW l) ∧ norm l ∧ l.length ≤ cap ∧
  z = (if bl = true then -(val l : Int) else (val l : Int)) ∧ (bl = true → l ≠ [])
theorem IntAt.isInt {W : World} {g : Nat} {z : Int} (h : IntAt W g z) : IsInt W g := by
  obtain ⟨bl, ad, cap, l, h1, _⟩ := h; exact ⟨_, _, _, _, h1⟩
theorem IntAt.kept {W W' : World} {g : Nat} {z : Int} (h : IntAt W g z) (hb : Below W.heap.size W W') : IntAt W' g z := by
  obtain ⟨bl, ad, cap, l, h1, h2, h3⟩ := h
  exact ⟨bl, ad, cap, l, row_kept h1 hb, h2.kept hb, h3⟩
theorem IsInt.kept {W W' : World} {g : Nat} (h : IsInt W g) (hb : Below W.heap.size W W') : IsInt W' g := by
  obtain ⟨bl, ad, n, cap, h1⟩ := h
  exact ⟨bl, ad, n, cap, row_kept h1 hb⟩
/-- Words lie in no block of a number. -/
theorem words_away {W : World} {r : Nat} (hr : IsInt W r) {l : List (BitVec 32)} {b off : Nat} (hne : l ≠ []) (hc : ∀ i, i < (vW l).length → W.cell? ⟨b, off + i, none⟩ = (vW l)[i]?) : b ≠ r := by
  rintro rfl
  obtain ⟨bl, ad, n, cap, hrow⟩ := hr
  have hl : 0 < l.length := List.length_pos_iff.2 hne
  have h := hc 0 (by rw [vW_length]; exact hl)
  rw [vW_get l 0 hl, cell_of_row _ _ _ _ _ _ hrow] at h
  have : off + 0 = 0 ∨ off + 0 = 1 ∨ 2 ≤ off + 0 := by omega
  rcases this with e | e | e
  · rw [e] at h; simp at h
  · rw [e] at h; simp at h
  · rw [Array.getElem?_eq_none (by simpa using e)] at h; simp at h
theorem sl_awayInt {W W' : World} {r : Nat} (hr : IsInt W r) (hg : W.grownBy W' (some r)) {a : Option Addr} {l : List (BitVec 32)} (h : Sl W a (vW l)) : Sl W' a (vW l) := by
  intro hne
  obtain ⟨b, off, rfl, hc⟩ := h hne
  have hl : l ≠ [] := fun e => by subst e; exact hne rfl
  have hb := words_away hr hl hc
  refine ⟨b, off, rfl, fun i hi => ?_⟩
  have h1 := hc i hi
  rw [List.getElem?_eq_getElem hi] at h1 ⊢
  exact grown_cell hg h1 (Ne.symm hb)
theorem IntAt.away {W W' : World} {g r : Nat} {z : Int} (h : IntAt W g z) (hr : IsInt W r) (hg : W.grownBy W' (some r)) (hne : r ≠ g) : IntAt W' g z := by
  obtain ⟨bl, ad, cap, l, h1, h2, h3⟩ := h
  exact ⟨bl, ad, cap, l, row_away h1 hg hne, sl_awayInt hr hg h2, h3⟩
theorem IsInt.away {W W' : World} {g r : Nat} (h : IsInt W g) (hg : W.grownBy W' (some r)) (hne : r ≠ g) : IsInt W' g := by
  obtain ⟨bl, ad, n, cap, h1⟩ := h
  exact ⟨bl, ad, n, cap, row_away h1 hg hne⟩
theorem grown_alloc {w W : World} {r : Option Nat} (h : w.grownBy W r) (o : Obj) : w.grownBy (W.alloc o) r := grown_trans h (grown_below ((Below.refl _ _).alloc (Nat.le_refl _) o) r)
theorem isInt_new (W : World) : IsInt (W.alloc (.cells #[.bool false, .slice none 0 0] 73)) W.heap.size := ⟨_, _, _, _, alloc_at rfl⟩
theorem intAt_zero (W : World) : IntAt (W.alloc (.cells #[.bool false, .slice none 0 0] 73)) W.heap.size 0 :=
  ⟨false, none, 0, [], alloc_at rfl, Sl.nil _ _, norm_nil, Nat.le_refl _, rfl, fun h => by cases h⟩
theorem signed_any (g : Nat) (bl : Bool) (ad : Option Addr) (n cap : Nat) (w : World) (hg : IsInt w g) :
    Calls Try.prog 56 #[.pointer (some ⟨g, 0, none⟩), .bool bl, .slice ad n cap] w fun e w' => e = .returned (.pointer (some ⟨g, 0, none⟩)) ∧ w.grownBy w' (some g) ∧ w'.heap[g]? = some (.cells #[.bool (bl && decide (0 < n)), .slice ad n cap] 73) := by
  obtain ⟨b0, a0, n0, c0, hrow⟩ := hg
  have h0 : w.cell? ⟨g, 0, none⟩ = some (.bool b0) := by rw [cell_of_row _ _ _ _ _ _ hrow]; rfl
  have h1 : w.cell? ⟨g, 1, none⟩ = some (.slice a0 n0 c0) := by rw [cell_of_row _ _ _ _ _ _ hrow]; rfl
  have f0 := frozen_of_row _ _ 0 _ _ hrow
  have f1 := frozen_of_row _ _ 1 _ _ hrow
  have HG := Lib.hid hrow
  clear hrow
  cases bl
  · go_enter Try.func56, Try.ntmps56
    go_wp2
    go_ret
    exact ⟨rfl, grown_set (grown_set (grown_refl _ _) _ _) _ _, by rw [heap_setCell_same _ _ _ _ _ _ (heap_setCell_same _ _ _ _ _ _ HG.out)]; rfl⟩
  · by_cases hn : 0 < n
    · have t0 : decide (0 < (n : Int)) = true := by simp; omega
      have t1 : decide (0 < n) = true := by simpa using hn
      go_enter Try.func56, Try.ntmps56
      go_wp2
      go_ret
      exact ⟨rfl, grown_set (grown_set (grown_refl _ _) _ _) _ _, by rw [heap_setCell_same _ _ _ _ _ _ (heap_setCell_same _ _ _ _ _ _ HG.out), t1]; rfl⟩
    · have t0 : decide (0 < (n : Int)) = false := by simp; omega
      have t1 : decide (0 < n) = false := by simpa using hn
      go_enter Try.func56, Try.ntmps56
      go_wp2
      go_ret
      exact ⟨rfl, grown_set (grown_set (grown_refl _ _) _ _) _ _, by rw [heap_setCell_same _ _ _ _ _ _ (heap_setCell_same _ _ _ _ _ _ HG.out), t1]; rfl⟩
theorem val_two (x : BitVec 64) : val [x.setWidth 32, (x >>> 32).setWidth 32] = x.toNat := by
  show (x.setWidth 32).toNat + 4294967296 * (((x >>> 32).setWidth 32).toNat + 4294967296 * 0) = x.toNat
  rw [BitVec.toNat_setWidth, BitVec.toNat_setWidth, BitVec.toNat_ushiftRight, Nat.shiftRight_eq_div_pow]
  have := x.isLt
  omega
theorem lo32_x (x : BitVec 64) : U64 x % (4294967296 : Int) = U32 (x.setWidth 32) := by
  unfold U64 U32; rw [BitVec.toNat_setWidth]; rfl
theorem hi32_x (x : BitVec 64) : U64 x / (4294967296 : Int) = U32 ((x >>> 32).setWidth 32) := by
  unfold U64 U32; rw [BitVec.toNat_setWidth, BitVec.toNat_ushiftRight, Nat.shiftRight_eq_div_pow]; have := x.isLt; omega
theorem hi32_x' (x : BitVec 64) : U64 x / (4294967296 : Int) % (4294967296 : Int) = U32 ((x >>> 32).setWidth 32) := by
  rw [hi32_x, Int.emod_eq_of_lt (U32_lo _) (by have := U32_hi ((x >>> 32).setWidth 32); omega)]
theorem short_at (a : Option Addr) (n cap : Nat) (l : List (BitVec 32)) (w : World) (hn : l.length = n) (hs : Sl w a (vW l)) (hl : n ≤ 1000000) (hc : n ≤ cap) :
    Calls Try.prog 59 #[.slice a n cap] w fun e w' => ∃ k, k ≤ n ∧ e = .returned (.slice a k cap) ∧ norm (l.take k) ∧ val (l.take k) = val l ∧ w = w' := by
  subst hn; exact short_any a cap l w hs hl hc
theorem set64_any (g : Nat) (x : BitVec 64) (w : World) (hg : IsInt w g) :
    Calls Try.prog 36 #[.pointer (some ⟨g, 0, none⟩), .int .u64 (U64 x)] w fun e w' => e = .returned (.pointer (some ⟨g, 0, none⟩)) ∧ w.grownBy w' (some g) ∧ IntAt w' g x.toNat := by
  obtain ⟨b0, a0, n0, c0, hrow⟩ := hg
  have h0 : w.cell? ⟨g, 0, none⟩ = some (.bool b0) := by rw [cell_of_row _ _ _ _ _ _ hrow]; rfl
  have h1 : w.cell? ⟨g, 1, none⟩ = some (.slice a0 n0 c0) := by rw [cell_of_row _ _ _ _ _ _ hrow]; rfl
  have f0 := frozen_of_row _ _ 0 _ _ hrow
  have f1 := frozen_of_row _ _ 1 _ _ hrow
  have hz := lt_row hrow
  have HG := Lib.hid hrow
  clear hrow
  go_enter Try.func36, Try.ntmps36
  go_wp2_with fail
  rw [lo32_x, hi32_x']
  have hs : Sl ((w.setCell ⟨g, 0, none⟩ (.bool false)).alloc (.cells #[.int .u32 (U32 (x.setWidth 32)), .int .u32 (U32 ((x >>> 32).setWidth 32))] 94)) (some ⟨w.heap.size, 0, none⟩) (vW [x.setWidth 32, (x >>> 32).setWidth 32]) := by
    have := sl_new (w.setCell ⟨g, 0, none⟩ (.bool false)) (vW [x.setWidth 32, (x >>> 32).setWidth 32]) 94 (0, 0)
    rwa [World.size_setCell] at this
  refine (short_at _ 2 2 [x.setWidth 32, (x >>> 32).setWidth 32] _ rfl hs (by omega) (by omega)).mono ?_
  rintro e w' ⟨k, hk, rfl, hnm, hv, rfl⟩
  rw [val_two] at hv
  have HS := Lib.hid hs
  have HN := Lib.hid hnm
  have HV := Lib.hid hv
  clear hs hnm hv
  go_wp2
  go_ret
  have hlen : ([x.setWidth 32, (x >>> 32).setWidth 32].take k).length = k := by rw [List.length_take]; exact Nat.min_eq_left hk
  refine ⟨rfl, grown_alloc (grown_set (grown_set (grown_refl _ _) _ _) _ _) _, false, some ⟨w.heap.size, 0, none⟩, 2, [x.setWidth 32, (x >>> 32).setWidth 32].take k, ?_, ?_, HN.out, by omega, by rw [HV.out]; rfl, fun h => by cases h⟩
  · rw [hlen]
    exact alloc_old (by rw [heap_setCell_same _ _ _ _ _ _ (heap_setCell_same _ _ _ _ _ _ HG.out)]; rfl)
  · have := sl_new ((w.setCell ⟨g, 0, none⟩ (.bool false)).setCell ⟨g, 1, none⟩ (.slice (some ⟨w.heap.size, 0, none⟩) k 2)) (vW [x.setWidth 32, (x >>> 32).setWidth 32]) 94 (0, 0)
    rw [World.size_setCell, World.size_setCell] at this
    rw [vW_take]; exact sl_take' this k
def sgn (z : Int) : Int := if z < 0 then -1 else if z = 0 then 0 else 1
theorem sign_any (g : Nat) (z : Int) (w : World) (hz : IntAt w g z) : Calls Try.prog 17 #[.pointer (some ⟨g, 0, none⟩)] w fun e w' => e = .returned (.int .i64 (sgn z)) ∧ w = w' := by
  obtain ⟨bl, ad, cap, l, hrow, hs, hn, hc, hzv, hbl⟩ := hz
  have h0 : w.cell? ⟨g, 0, none⟩ = some (.bool bl) := by rw [cell_of_row _ _ _ _ _ _ hrow]; rfl
  have h1 : w.cell? ⟨g, 1, none⟩ = some (.slice ad l.length cap) := by rw [cell_of_row _ _ _ _ _ _ hrow]; rfl
  have hv := val_zero l hn
  cases bl
  · by_cases hl : l = []
    · have HZ := Lib.hid (show sgn z = 0 by rw [hzv, hl]; rfl)
      have t0 : ((l.length : Int) == 0) = true := by rw [hl]; rfl
      clear hrow hs hn hc hzv hbl hv hl
      go_enter Try.func17, Try.ntmps17
      go_wp2
      go_ret
      exact ⟨ret_int HZ.out.symm, rfl⟩
    · have HZ := Lib.hid (show sgn z = 1 by
        have : val l ≠ 0 := fun h => hl (hv.1 h)
        rw [hzv]; unfold sgn; simp only [Bool.false_eq_true, if_false]; rw [if_neg (by omega), if_neg (by omega)])
      have hpos : 0 < l.length := List.length_pos_iff.2 hl
      have t0 : ((l.length : Int) == 0) = false := beq_eq_false_iff_ne.2 (by omega)
      clear hrow hs hn hc hzv hbl hv hl
      go_enter Try.func17, Try.ntmps17
      go_wp2
      go_ret
      exact ⟨ret_int HZ.out.symm, rfl⟩
  · have HZ := Lib.hid (show sgn z = -1 by
        have : val l ≠ 0 := fun h => hbl rfl (hv.1 h)
        rw [hzv]; unfold sgn; simp only [if_true]; rw [if_pos (by omega)])
    clear hrow hs hn hc hzv hbl hv
    go_enter Try.func17, Try.ntmps17
    go_wp2
    go_ret
    exact ⟨ret_int HZ.out.symm, rfl⟩
theorem u64_val (l : List (BitVec 32)) : (at0 l 0).toNat + 4294967296 * (at0 l 1).toNat = val l % 18446744073709551616 := by
  have h := val_split l (min 2 l.length) (Nat.min_le_right _ _)
  rcases l with _ | ⟨x, _ | ⟨y, r⟩⟩
  · rfl
  · have := x.isLt
    show x.toNat + 4294967296 * 0 = (x.toNat + 4294967296 * 0) % _
    omega
  · have := x.isLt
    have := y.isLt
    show x.toNat + 4294967296 * y.toNat = (x.toNat + 4294967296 * (y.toNat + 4294967296 * val r)) % _
    omega
theorem u64_x (x y : BitVec 32) : bits .or .u64 (U32 x) (IntKind.u64.wrap (U32 y * 4294967296)) = U64 (BitVec.ofNat 64 (x.toNat + 4294967296 * y.toNat)) := by
  have hx := x.isLt
  have hy := y.isLt
  rw [or_U64, IntKind.wrap_u64, Int.emod_eq_of_lt (by unfold U32; omega) (by unfold U32; omega)]
  congr 1
  apply BitVec.eq_of_toNat_eq
  rw [BitVec.toNat_or, BitVec.toNat_ofNat, show U32 y * 4294967296 = ((y.toNat * 4294967296 : Nat) : Int) from by unfold U32; omega]
  unfold U32
  rw [BitVec.ofInt_natCast, BitVec.ofInt_natCast, BitVec.toNat_ofNat, BitVec.toNat_ofNat, Nat.mod_eq_of_lt (by omega), Nat.mod_eq_of_lt (by omega), Nat.mod_eq_of_lt (by omega), Nat.or_comm]
  have := Nat.two_pow_add_eq_or_of_lt (i := 32) hx y.toNat
  rw [show (2 : Nat) ^ 32 = 4294967296 from rfl] at this
  rw [Nat.mul_comm y.toNat, ← this]; omega
theorem uint64_any (g : Nat) (z : Int) (w : World) (hz : IntAt w g z) (hb : z.natAbs < pw 900) : Calls Try.prog 42 #[.pointer (some ⟨g, 0, none⟩)] w fun e w' => e = .returned (.int .u64 (U64 (BitVec.ofNat 64 z.natAbs))) ∧ Qt w w' := by
  obtain ⟨bl, ad, cap, l, hrow, hs, hn, hc, hzv, hbl⟩ := hz
  have h1 : w.cell? ⟨g, 1, none⟩ = some (.slice ad l.length cap) := by rw [cell_of_row _ _ _ _ _ _ hrow]; rfl
  have hzn : z.natAbs = val l := by rw [hzv]; split <;> omega
  have hlen : l.length ≤ 900 := len_le l hn 900 (by rw [← hzn]; exact hb)
  have HW0 := Lib.hid (show ∀ W : World, Qt w W → Calls Try.prog 60 #[.slice ad l.length cap, .int .i64 0] W fun e w' => e = .returned (.int .u64 (U32 (at0 l 0))) ∧ Qt w w' from
    fun W hW => (word_any ad cap l 0 W (hW.sl hs) (by omega) (by omega)).mono (fun e w' ⟨he, hw⟩ => ⟨he, hw ▸ hW⟩))
  have HW1 := Lib.hid (show ∀ W : World, Qt w W → Calls Try.prog 60 #[.slice ad l.length cap, .int .i64 1] W fun e w' => e = .returned (.int .u64 (U32 (at0 l 1))) ∧ Qt w w' from
    fun W hW => (word_any ad cap l 1 W (hW.sl hs) (by omega) (by omega)).mono (fun e w' ⟨he, hw⟩ => ⟨he, hw ▸ hW⟩))
  have hu := u64_x (at0 l 0) (at0 l 1)
  have HE := Lib.hid (show BitVec.ofNat 64 ((at0 l 0).toNat + 4294967296 * (at0 l 1).toNat) = BitVec.ofNat 64 z.natAbs by
    rw [u64_val, hzn]; apply BitVec.eq_of_toNat_eq; rw [BitVec.toNat_ofNat, BitVec.toNat_ofNat]; omega)
  have hx0 := U32_lo (at0 l 0)
  have hx1 := U32_hi (at0 l 0)
  have hy0 := U32_lo (at0 l 1)
  have hy1 := U32_hi (at0 l 1)
  generalize BitVec.ofNat 64 ((at0 l 0).toNat + 4294967296 * (at0 l 1).toNat) = R at *
  clear hrow hs hn hc hzv hbl hzn hb
  go_enter Try.func42, Try.ntmps42
  go_wp2
  refine wp_region_inv 13 (fun W => Qt w W) (by kernel_rfl) (by kernel_rfl) (fun n => ⟨n, rfl⟩) ?_
  simp only [List.take_succ_cons, List.take_zero]
  iterate 13
    apply wpInv_cons
    · rfl
    · intro Wx hw
      have k1 := (hw.cell ⟨g, 1, none⟩).trans h1
      go_simp
      first
        | exact ⟨hw, rfl⟩
        | (show Calls _ _ _ _ _; with_reducible exact HW0.out _ hw)
        | (show Calls _ _ _ _ _; with_reducible exact HW1.out _ hw)
    simp only [Act.put, List.setIfInBounds_toArray, List.set_cons_zero, List.set_cons_succ]
  refine wpInv_nil fun W hw => ?_
  simp only [List.drop_succ_cons, List.drop_zero]
  go_wp2
  go_ret
  exact ⟨by rw [← HE.out]; rfl, hw⟩
/-- So many bits a number has. -/
def bl (n : Nat) : Nat := if n = 0 then 0 else Nat.log2 n + 1
theorem bl_le (n k : Nat) : bl n ≤ k ↔ n < 2 ^ k := by
  unfold bl
  split
  · subst_vars; simp; exact Nat.two_pow_pos k
  · rename_i h
    rw [Nat.succ_le_iff, Nat.log2_lt h]
theorem bl_of (n b : Nat) (h1 : n < 2 ^ b) (h2 : 0 < b → 2 ^ (b - 1) ≤ n) : bl n = b := by
  apply Nat.le_antisymm
  · exact (bl_le n b).2 h1
  · rcases Nat.eq_zero_or_pos b with h | h
    · omega
    · have := h2 h
      rcases Nat.lt_or_ge (bl n) b with h' | h'
      · have := (bl_le n (b - 1)).1 (by omega); omega
      · exact h'
theorem bl_top (l : List (BitVec 32)) (x : BitVec 32) (j b : Nat) (hx : x.toNat / 2 ^ b = 0) (hj : 0 < b → 2 ^ (b - 1) ≤ x.toNat) (h0 : x ≠ 0#32) : bl (val (l ++ [x])) = 32 * l.length + b := by
  have hv := val_lt l
  rw [pw_eq] at hv
  have hx1 : x.toNat < 2 ^ b := by
    rcases Nat.lt_or_ge x.toNat (2 ^ b) with h | h
    · exact h
    · have := Nat.div_pos h (Nat.two_pow_pos b); omega
  have hp : 0 < x.toNat := by
    rcases Nat.eq_zero_or_pos x.toNat with h' | h'
    · exact absurd (BitVec.eq_of_toNat_eq (by simpa using h')) h0
    · exact h'
  have hb : 0 < b := by
    rcases Nat.eq_zero_or_pos b with h | h
    · subst h; simp at hx1; omega
    · exact h
  rw [val_snoc, pw_eq]
  apply bl_of
  · rw [Nat.pow_add]
    have : 2 ^ (32 * l.length) * x.toNat + 2 ^ (32 * l.length) ≤ 2 ^ (32 * l.length) * 2 ^ b := by rw [← Nat.mul_succ]; exact Nat.mul_le_mul_left _ hx1
    omega
  · intro _
    rw [show 32 * l.length + b - 1 = 32 * l.length + (b - 1) by omega, Nat.pow_add]
    have := Nat.mul_le_mul_left (2 ^ (32 * l.length)) (hj hb)
    omega
theorem shr1_x (x : BitVec 32) (j : Nat) : U32 (x >>> j) / (2 : Int) = U32 (x >>> (j + 1)) := by
  rw [BitVec.shiftRight_add, ← shr_U32 (x >>> j) 1]; rfl
set_option maxRecDepth 100000 in
theorem bitlen_any (g : Nat) (z : Int) (w : World) (hz : IntAt w g z) (hb : z.natAbs < pw 900) : Calls Try.prog 40 #[.pointer (some ⟨g, 0, none⟩)] w fun e w' => e = .returned (.int .i64 (bl z.natAbs)) ∧ Qt w w' := by
  obtain ⟨bo, ad, cap, l, hrow, hs, hn, hc, hzv, hbl⟩ := hz
  have h1 : w.cell? ⟨g, 1, none⟩ = some (.slice ad l.length cap) := by rw [cell_of_row _ _ _ _ _ _ hrow]; rfl
  have hzn : z.natAbs = val l := by rw [hzv]; split <;> omega
  have hlen : l.length ≤ 900 := len_le l hn 900 (by rw [← hzn]; exact hb)
  by_cases hl : l = []
  · have t0 : ((l.length : Int) == 0) = true := by rw [hl]; rfl
    have HE := Lib.hid (show (0 : Int) = ((bl z.natAbs : Nat) : Int) by rw [hzn, hl]; rfl)
    clear hrow hs hn hc hzv hbl hzn hb hl
    go_enter Try.func40, Try.ntmps40
    go_wp2
    go_ret
    exact ⟨ret_int HE.out, Qt.refl _⟩
  · have hpos : 0 < l.length := List.length_pos_iff.2 hl
    have t0 : ((l.length : Int) == 0) = false := beq_eq_false_iff_ne.2 (by omega)
    obtain ⟨m, x, rfl⟩ : ∃ m x, l = m ++ [x] := ⟨l.dropLast, l.getLast hl, (List.dropLast_concat_getLast hl).symm⟩
    have hx0 : x ≠ 0#32 := hn x (by simp)
    obtain ⟨b, off, rfl, hcell⟩ := hs (vW_ne hpos)
    have h2 := hcell m.length (by rw [vW_length]; simp)
    rw [vW_get _ m.length (by simp)] at h2
    simp only [List.getElem_concat_length] at h2
    have hlm : (m ++ [x]).length = m.length + 1 := by simp
    rw [hlm] at h1 hlen t0
    have HN := Lib.hid hzn
    have HX := Lib.hid hx0
    clear hrow hs hn hc hzv hbl hb hl hcell hzn hx0 hlm hpos
    have i0 : (m.length : Int) + 1 - 1 = (m.length : Int) := by omega
    have i1 : (m.length : Int) < (m.length : Int) + 1 := by omega
    have i2 : (m.length : Int) ≤ 900 := by omega
    go_enter Try.func40, Try.ntmps40
    go_wp2
    go_quiet (fail)
    go_wp2
    go_loop [3, 4] (fun n q => ∃ j : Nat, j ≤ 32 ∧ n = .int .i64 (32 * (m.length : Int) + j) ∧ q = .int .u32 (U32 (x >>> j)) ∧ (0 < j → 2 ^ (j - 1) ≤ x.toNat)) (fun _ q => (intOf q).toNat)
    case atStart => exact ⟨0, by omega, by simp, by simp, fun h => by omega⟩
    case round =>
      obtain ⟨j, hj, rfl, rfl, hge⟩ := hrel
      have hxv : (x >>> j).toNat = x.toNat / 2 ^ j := by rw [BitVec.toNat_ushiftRight, Nat.shiftRight_eq_div_pow]
      by_cases hz : x.toNat / 2 ^ j = 0
      · have t1 : decide (0 < U32 (x >>> j)) = false := decide_eq_false (by unfold U32; rw [hxv, hz]; omega)
        have HE := Lib.hid (show 32 * (m.length : Int) + j = ((bl z.natAbs : Nat) : Int) by rw [HN.out, bl_top m x j j hz hge HX.out]; omega)
        clear hz hxv hge
        go_wp2
        go_ret
        exact ⟨ret_int HE.out, Qt.drewN _ _⟩
      · have t1 : decide (0 < U32 (x >>> j)) = true := decide_eq_true (by unfold U32; rw [hxv]; omega)
        have hj32 : j < 32 := by
          rcases Nat.lt_or_ge j 32 with h | h
          · exact h
          · exfalso
            have : j = 32 := by omega
            subst this
            exact hz (Nat.div_eq_of_lt x.isLt)
        have HG := Lib.hid (show 2 ^ j ≤ x.toNat by
          rcases Nat.lt_or_ge x.toNat (2 ^ j) with h | h
          · exact absurd (Nat.div_eq_of_lt h) hz
          · exact h)
        have HM := Lib.hid (show (U32 (x >>> (j + 1))).toNat < (U32 (x >>> j)).toNat by
          unfold U32
          rw [Int.toNat_natCast, Int.toNat_natCast, hxv, BitVec.toNat_ushiftRight, Nat.shiftRight_eq_div_pow, Nat.pow_succ, ← Nat.div_div_eq_div_mul]; omega)
        have hs := shr1_x x j
        clear hz hxv hge
        go_wp2
        go_round
        case rel => exact ⟨j + 1, by omega, by go_num, rfl, fun _ => HG.out⟩
        case measure => exact HM.out
def fits (z : Int) : Prop := 0 ≤ z ∧ z < 18446744073709551616
instance (z : Int) : Decidable (fits z) := by unfold fits; infer_instance
def smallV (z : Int) : Value := if fits z then .tuple #[.int .u64 (U64 (BitVec.ofNat 64 z.toNat)), .bool true] else .tuple #[.int .u64 0, .bool false]
theorem smallV_yes {z : Int} (h : fits z) : smallV z = .tuple #[.int .u64 (U64 (BitVec.ofNat 64 z.toNat)), .bool true] := if_pos h
theorem smallV_no {z : Int} (h : ¬ fits z) : smallV z = .tuple #[.int .u64 0, .bool false] := if_neg h
def fitV (z : Int) : Value := if fits z then .tuple #[.int .u64 (U64 (BitVec.ofNat 64 z.toNat)), .int .i64 0] else .tuple #[.int .u64 0, .int .i64 10]
theorem fitV_yes {z : Int} (h : fits z) : fitV z = .tuple #[.int .u64 (U64 (BitVec.ofNat 64 z.toNat)), .int .i64 0] := if_pos h
theorem fitV_no {z : Int} (h : ¬ fits z) : fitV z = .tuple #[.int .u64 0, .int .i64 10] := if_neg h
end Go.Proofs.Ytbggibdldadpiaa.n01

