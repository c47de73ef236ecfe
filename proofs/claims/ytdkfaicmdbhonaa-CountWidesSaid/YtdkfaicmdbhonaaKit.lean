/-
  A small library of our own over the kit, the same text for every seat (no program in it): numbers of 64 bits as bit vectors, slices by their cells, small steps.
-/
import Derived.WalkKit
import Derived.WalkLawsBesides
import Derived.WalkSpells
import Derived.Outline
import Derived.Lib.Hide
namespace Go.K
open Go.RowKit

/-! ### Numbers of 64 bits as bit vectors -/
def U64 (x : BitVec 64) : Int := (x.toNat : Int)
theorem U64_lo (x : BitVec 64) : 0 ≤ U64 x := by unfold U64; omega
theorem U64_hi (x : BitVec 64) : U64 x ≤ 18446744073709551615 := by unfold U64; have := x.isLt; omega
theorem U64_ofInt (x : BitVec 64) : BitVec.ofInt 64 (U64 x) = x := by
  unfold U64; rw [BitVec.ofInt_natCast]; simp
theorem U64_inj {x y : BitVec 64} (h : U64 x = U64 y) : x = y := by
  rw [← U64_ofInt x, ← U64_ofInt y, h]
theorem U64_eq_iff (x y : BitVec 64) : (U64 x = U64 y) ↔ x = y := ⟨U64_inj, fun h => h ▸ rfl⟩
theorem U64_beq (x y : BitVec 64) : (U64 x == U64 y) = (x == y) := by
  rw [Bool.eq_iff_iff]; simp [U64_eq_iff]
theorem U64_bne (x y : BitVec 64) : (U64 x != U64 y) = (x != y) := by
  simp [bne, U64_beq]
theorem U64_ofInt_of (n : Int) (h0 : 0 ≤ n) (h1 : n ≤ 18446744073709551615) : U64 (BitVec.ofInt 64 n) = n := by
  unfold U64; rw [BitVec.toNat_ofInt]; omega
theorem wrap_u64_nat (n : Nat) (h : n < 18446744073709551616) : IntKind.u64.wrap (n : Int) = n := by
  rw [IntKind.wrap_u64]; omega
theorem bits_u64_eq (op : BinOp) (f : BitVec 64 → BitVec 64 → BitVec 64)
    (hf : ∀ a b : Int, bits op .u64 a b = IntKind.u64.wrap ((f (BitVec.ofInt 64 a) (BitVec.ofInt 64 b)).toNat : Int)) (x y : Int) :
    bits op .u64 x y = U64 (f (BitVec.ofInt 64 x) (BitVec.ofInt 64 y)) := by
  rw [hf]; exact wrap_u64_nat _ (BitVec.isLt _)
theorem xor_U64 (x y : Int) : bits .xor .u64 x y = U64 (BitVec.ofInt 64 x ^^^ BitVec.ofInt 64 y) := bits_u64_eq .xor (· ^^^ ·) (fun _ _ => rfl) _ _
theorem and_U64 (x y : Int) : bits .and .u64 x y = U64 (BitVec.ofInt 64 x &&& BitVec.ofInt 64 y) := bits_u64_eq .and (· &&& ·) (fun _ _ => rfl) _ _
theorem or_U64 (x y : Int) : bits .or .u64 x y = U64 (BitVec.ofInt 64 x ||| BitVec.ofInt 64 y) := bits_u64_eq .or (· ||| ·) (fun _ _ => rfl) _ _
theorem wrap_U64 (z : Int) : IntKind.u64.wrap z = U64 (BitVec.ofInt 64 z) := by
  unfold U64; rw [IntKind.wrap_u64, BitVec.toNat_ofInt]; omega
theorem ofInt_add64 (a b : Int) : BitVec.ofInt 64 (a + b) = BitVec.ofInt 64 a + BitVec.ofInt 64 b := BitVec.ofInt_add ..
theorem ofInt_mul64 (a b : Int) : BitVec.ofInt 64 (a * b) = BitVec.ofInt 64 a * BitVec.ofInt 64 b := BitVec.ofInt_mul ..
theorem ofInt_neg64 (a : Int) : BitVec.ofInt 64 (-a) = - BitVec.ofInt 64 a := BitVec.ofInt_neg ..
theorem ofInt_nat64 (n : Nat) : BitVec.ofInt 64 (n : Int) = BitVec.ofNat 64 n := BitVec.ofInt_natCast 64 n
theorem shr_U64 (x : BitVec 64) (k : Nat) : U64 x / ((2 ^ k : Nat) : Int) = U64 (x >>> k) := by
  unfold U64; rw [BitVec.toNat_ushiftRight, Nat.shiftRight_eq_div_pow]; rfl
theorem shr_U64_1 (x : BitVec 64) : U64 x / (2 : Int) = U64 (x >>> 1) := shr_U64 x 1
theorem shr_U64_4 (x : BitVec 64) : U64 x / (16 : Int) = U64 (x >>> 4) := shr_U64 x 4
theorem shr_pow (x : BitVec 64) (k : Nat) : U64 x / (2 : Int) ^ k = U64 (x >>> k) := by
  rw [← shr_U64 x k]; simp
theorem U64_ofNat (k : Nat) (h : k < 18446744073709551616) : U64 (BitVec.ofNat 64 k) = (k : Int) := by
  unfold U64; rw [BitVec.toNat_ofNat, Nat.mod_eq_of_lt (by omega)]
theorem U64_and_lt (x : BitVec 64) (m : Nat) : U64 (x &&& BitVec.ofNat 64 m) ≤ m := by
  unfold U64
  have h : (x &&& BitVec.ofNat 64 m).toNat ≤ (BitVec.ofNat 64 m).toNat := by rw [BitVec.toNat_and]; exact Nat.and_le_right
  have : (BitVec.ofNat 64 m).toNat ≤ m := by rw [BitVec.toNat_ofNat]; exact Nat.mod_le _ _
  omega

theorem u64_signed : IntKind.u64.signed = false := rfl
theorem u64_compl (r : BitVec 64) : BitVec.ofInt 64 IntKind.u64.max ^^^ r = ~~~ r := by
  rw [show BitVec.ofInt 64 IntKind.u64.max = BitVec.allOnes 64 from by decide +kernel]
  exact BitVec.allOnes_xor

theorem tdiv_U64_2 (x : BitVec 64) : (U64 x).tdiv 2 = U64 (x >>> 1) := by
  rw [Int.tdiv_eq_ediv_of_nonneg (U64_lo x)]; exact shr_U64 x 1
theorem tmod_U64_2 (x : BitVec 64) : (U64 x).tmod 2 = U64 (x &&& 1#64) := by
  rw [Int.tmod_eq_emod_of_nonneg (U64_lo x)]
  unfold U64
  rw [BitVec.toNat_and, show (1#64).toNat = 2 ^ 1 - 1 from rfl, Nat.and_two_pow_sub_one_eq_mod]
  rfl
theorem and1_cases (x : BitVec 64) : x &&& 1#64 = if x.getLsbD 0 then 1#64 else 0#64 := by
  rw [BitVec.and_one_eq_setWidth_ofBool_getLsbD]
  cases x.getLsbD 0 <;> rfl

/-! ### A frame's end -/
theorem ret_eq {a b : Value} (h : a = b) : Ending.returned a = .returned b := by rw [h]
theorem ret_int {k : IntKind} {a b : Int} (h : a = b) : Ending.returned (.int k a) = .returned (.int k b) := by rw [h]
theorem ret_bool {a b : Bool} (h : a = b) : Ending.returned (.bool a) = .returned (.bool b) := by rw [h]

/-- The world behind what has been shown of it. -/
theorem wp_world {P : Program} {c : Code} {Q : Exit → Act → World → Prop} {a : Act} {w : World} (R : World → Prop) (h : R w) (k : ∀ W, R W → c.wp P Q a W) : c.wp P Q a w := k w h

theorem below_setRow {B : Nat} {a w : World} (h : Below B a w) {g : Nat} (hg : B ≤ g) (cs : Array Value) : Below B a (w.setRow g cs) :=
  h.trans ⟨rfl, rfl, rfl, by simp, fun k hk => setRow_other _ _ _ _ (by omega)⟩

theorem grown_below {w w1 : World} (h : Below w.heap.size w w1) (row : Option Nat) : w.grownBy w1 row :=
  ⟨h.os, h.tape, h.output, h.size, fun k hk _ => h.block k hk⟩
theorem grown_set {w w1 : World} {g : Nat} (h : w.grownBy w1 (some g)) (off : Nat) (u : Value) : w.grownBy (w1.setCell ⟨g, off, none⟩ u) (some g) :=
  ⟨h.os, h.tape, h.output, by simpa [World.setCell] using h.size, fun k hk hne => by
    rw [heap_setCell_other _ _ _ _ (fun e => hne (by rw [e]))]; exact h.block k hk hne⟩
theorem grown_trans {a b c : World} {row : Option Nat} (h : a.grownBy b row) (k : b.grownBy c row) : a.grownBy c row :=
  ⟨k.os.trans h.os, k.tape.trans h.tape, k.output.trans h.output, Nat.le_trans h.size k.size, fun i hi hne => (k.block i (Nat.lt_of_lt_of_le hi h.size) hne).trans (h.block i hi hne)⟩
theorem below_grown {B : Nat} {a w w' : World} {g : Nat} (h : Below B a w) (hg : w.grownBy w' (some g)) (hB : B ≤ w.heap.size) (hr : B ≤ g) : Below B a w' :=
  h.grown hg hB (fun k hk => by cases hk; exact hr)

/-! ### A slice by its cells -/
/-- The slice at 'a' shows the values 'vs', cell by cell (nothing is said of where an empty one lies). -/
def Sl (w : World) (a : Option Addr) (vs : List Value) : Prop :=
  vs ≠ [] → ∃ b off, a = some ⟨b, off, none⟩ ∧ ∀ i, i < vs.length → w.cell? ⟨b, off + i, none⟩ = vs[i]?
theorem Sl.nil (w : World) (a : Option Addr) : Sl w a [] := fun h => absurd rfl h
theorem Sl.below {B : Nat} {w w' : World} {a : Option Addr} {vs : List Value} (h : Sl w a vs) (hb : Below B w w') (ha : ∀ x, a = some x → vs ≠ [] → x.block < B) : Sl w' a vs := by
  intro hne
  obtain ⟨b, off, rfl, hc⟩ := h hne
  have := ha _ rfl hne
  exact ⟨b, off, rfl, fun i hi => by rw [hb.cell (p := ⟨b, off + i, none⟩) this]; exact hc i hi⟩
theorem Sl.lt {w : World} {a : Option Addr} {vs : List Value} (h : Sl w a vs) : ∀ x, a = some x → vs ≠ [] → x.block < w.heap.size := by
  intro x hx hne
  obtain ⟨b, off, rfl, hc⟩ := h hne
  cases hx
  have h0 := hc 0 (List.length_pos_iff.2 hne)
  rw [List.getElem?_eq_getElem (List.length_pos_iff.2 hne)] at h0
  exact World.block_lt_of_cell? w _ h0
/-- What was there before a call is there behind it. -/
theorem Sl.kept {w w' : World} {a : Option Addr} {vs : List Value} (h : Sl w a vs) (hb : Below w.heap.size w w') : Sl w' a vs := h.below hb h.lt

/-! ### Bytes -/
def U8 (c : BitVec 8) : Int := (c.toNat : Int)
theorem U8_lo (x : BitVec 8) : 0 ≤ U8 x := by unfold U8; omega
theorem U8_hi (x : BitVec 8) : U8 x ≤ 255 := by unfold U8; have := x.isLt; omega
theorem U8_ofInt64 (x : BitVec 8) : BitVec.ofInt 64 (U8 x) = x.setWidth 64 := by
  unfold U8; rw [BitVec.ofInt_natCast]
  apply BitVec.eq_of_toNat_eq; simp
theorem U8_ofInt (x : BitVec 8) : BitVec.ofInt 8 (U8 x) = x := by
  unfold U8; rw [BitVec.ofInt_natCast]; simp
theorem U8_inj {x y : BitVec 8} (h : U8 x = U8 y) : x = y := by
  rw [← U8_ofInt x, ← U8_ofInt y, h]
theorem wrap_U8 (z : Int) : IntKind.u8.wrap z = U8 (BitVec.ofInt 8 z) := by
  unfold U8; rw [IntKind.wrap_u8, BitVec.toNat_ofInt]; omega
def vB (c : BitVec 8) : Value := .int .u8 (U8 c)
def vBs (l : List (BitVec 8)) : List Value := l.map vB
theorem vBs_length (l : List (BitVec 8)) : (vBs l).length = l.length := by simp [vBs]
theorem vBs_get (l : List (BitVec 8)) (i : Nat) (h : i < l.length) : (vBs l)[i]? = some (.int .u8 (U8 l[i])) := by
  simp [vBs, List.getElem?_eq_getElem h]; rfl

end Go.K
