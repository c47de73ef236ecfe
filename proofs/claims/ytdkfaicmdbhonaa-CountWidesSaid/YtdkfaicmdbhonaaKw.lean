/-
  Numbers of 32 bits as bit vectors. The same text for every seat (no program in it).
-/
import Derived.Test.YtdkfaicmdbhonaaKit
namespace Go.K
open Go.RowKit
def U32 (x : BitVec 32) : Int := (x.toNat : Int)
theorem U32_lo (x : BitVec 32) : 0 ≤ U32 x := by unfold U32; omega
theorem U32_hi (x : BitVec 32) : U32 x ≤ 4294967295 := by unfold U32; have := x.isLt; omega
theorem U32_ofInt (x : BitVec 32) : BitVec.ofInt 32 (U32 x) = x := by
  unfold U32; rw [BitVec.ofInt_natCast]; simp
theorem U32_inj {x y : BitVec 32} (h : U32 x = U32 y) : x = y := by
  rw [← U32_ofInt x, ← U32_ofInt y, h]
theorem wrap_U32 (z : Int) : IntKind.u32.wrap z = U32 (BitVec.ofInt 32 z) := by
  unfold U32; rw [IntKind.wrap_u32, BitVec.toNat_ofInt]; omega
theorem U32_ofInt64 (x : BitVec 32) : BitVec.ofInt 64 (U32 x) = x.setWidth 64 := by
  unfold U32; rw [BitVec.ofInt_natCast]
  apply BitVec.eq_of_toNat_eq; simp
theorem U64_ofInt32 (x : BitVec 64) : BitVec.ofInt 32 (U64 x) = x.setWidth 32 := by
  unfold U64; rw [BitVec.ofInt_natCast]
  apply BitVec.eq_of_toNat_eq; simp
theorem bits_u32_eq (op : BinOp) (f : BitVec 32 → BitVec 32 → BitVec 32)
    (hf : ∀ a b : Int, bits op .u32 a b = IntKind.u32.wrap ((f (BitVec.ofInt 32 a) (BitVec.ofInt 32 b)).toNat : Int)) (x y : Int) :
    bits op .u32 x y = U32 (f (BitVec.ofInt 32 x) (BitVec.ofInt 32 y)) := by
  rw [hf, IntKind.wrap_u32]; unfold U32; have := (f (BitVec.ofInt 32 x) (BitVec.ofInt 32 y)).isLt; omega
theorem xor_U32 (x y : Int) : bits .xor .u32 x y = U32 (BitVec.ofInt 32 x ^^^ BitVec.ofInt 32 y) := bits_u32_eq .xor (· ^^^ ·) (fun _ _ => rfl) _ _
theorem and_U32 (x y : Int) : bits .and .u32 x y = U32 (BitVec.ofInt 32 x &&& BitVec.ofInt 32 y) := bits_u32_eq .and (· &&& ·) (fun _ _ => rfl) _ _
theorem or_U32 (x y : Int) : bits .or .u32 x y = U32 (BitVec.ofInt 32 x ||| BitVec.ofInt 32 y) := bits_u32_eq .or (· ||| ·) (fun _ _ => rfl) _ _
theorem shr_U32 (x : BitVec 32) (k : Nat) : U32 x / ((2 ^ k : Nat) : Int) = U32 (x >>> k) := by
  unfold U32; rw [BitVec.toNat_ushiftRight, Nat.shiftRight_eq_div_pow]; rfl
theorem shl_U32 (x : BitVec 32) (k : Nat) : BitVec.ofInt 32 (U32 x * ((2 ^ k : Nat) : Int)) = x <<< k := by
  unfold U32
  apply BitVec.eq_of_toNat_eq
  rw [← Int.natCast_mul, BitVec.ofInt_natCast, BitVec.toNat_ofNat, BitVec.toNat_shiftLeft, Nat.shiftLeft_eq]
theorem U32_eq_iff (x y : BitVec 32) : (U32 x = U32 y) ↔ x = y := ⟨U32_inj, fun h => h ▸ rfl⟩
theorem U32_beq (x y : BitVec 32) : (U32 x == U32 y) = (x == y) := by
  rw [Bool.eq_iff_iff]; simp [U32_eq_iff]
theorem U32_bne (x y : BitVec 32) : (U32 x != U32 y) = (x != y) := by
  simp [bne, U32_beq]
theorem u32_signed : IntKind.u32.signed = false := rfl

/-! ### Blocks -/
theorem lt_row {w : World} {g : Nat} {o : Obj} (h : w.heap[g]? = some o) : g < w.heap.size := (Array.getElem?_eq_some_iff.1 h).1
theorem alloc_at {w : World} {n : Nat} {o : Obj} (h : n = w.heap.size) : (w.alloc o).heap[n]? = some o := by subst h; exact heap_alloc_new _ _
theorem alloc_old {w : World} {n : Nat} {o p : Obj} (h : w.heap[n]? = some o) : (w.alloc p).heap[n]? = some o := by
  have := lt_row h
  show (w.heap.push p)[n]? = some o
  rw [Array.getElem?_push, if_neg (by omega)]; exact h
theorem row_away {W W' : World} {n : Nat} {o : Obj} (h : W.heap[n]? = some o) {r : Nat} (hg : W.grownBy W' (some r)) (hr : r ≠ n) : W'.heap[n]? = some o :=
  (hg.block n (lt_row h) (fun e => by injection e with e; exact hr e.symm)).trans h
theorem row_kept {W W' : World} {n : Nat} {o : Obj} (h : W.heap[n]? = some o) (hb : Below W.heap.size W W') : W'.heap[n]? = some o := (hb.block n (lt_row h)).trans h
theorem below_drawn {B : Nat} {a w : World} (h : Below B a w) (n : Nat) : Below B a { w with drawn := n } := h.trans ⟨rfl, rfl, rfl, Nat.le_refl _, fun _ _ => rfl⟩
theorem grown_cell {W W' : World} {r : Nat} (hg : W.grownBy W' (some r)) {b o : Nat} {v : Value} (h : W.cell? ⟨b, o, none⟩ = some v) (hr : r ≠ b) : W'.cell? ⟨b, o, none⟩ = some v := by
  have hb := World.block_lt_of_cell? W _ h
  rw [← h]; unfold World.cell?
  rw [hg.block b hb (fun e => by injection e with e; exact hr e.symm)]
theorem below_cell {W W' : World} (hb : Below W.heap.size W W') {a : Addr} {v : Value} (h : W.cell? a = some v) : W'.cell? a = some v := by
  rw [hb.cell (p := a) (World.block_lt_of_cell? W _ h)]; exact h
/-- The same but for the draws. -/
def Qt (w w' : World) : Prop := ∃ n, w' = { w with drawn := n }
theorem Qt.refl (w : World) : Qt w w := ⟨w.drawn, rfl⟩
theorem Qt.heap {w w' : World} (h : Qt w w') : w'.heap = w.heap := by obtain ⟨n, rfl⟩ := h; rfl
theorem Qt.below {w w' : World} (h : Qt w w') (B : Nat) : Below B w w' := by obtain ⟨n, rfl⟩ := h; exact ⟨rfl, rfl, rfl, Nat.le_refl _, fun _ _ => rfl⟩
theorem Qt.drewN (w : World) (n : Nat) : Qt w (w.drewN n) := ⟨_, rfl⟩
theorem Qt.trans {a b c : World} (h : Qt a b) (k : Qt b c) : Qt a c := by obtain ⟨n, rfl⟩ := h; obtain ⟨m, rfl⟩ := k; exact ⟨m, rfl⟩
theorem Qt.sl {w w' : World} (h : Qt w w') {a : Option Addr} {vs : List Value} (hs : Sl w a vs) : Sl w' a vs := hs.kept (h.below _)
theorem Qt.cell {w w' : World} (h : Qt w w') (a : Addr) : w'.cell? a = w.cell? a := by obtain ⟨n, rfl⟩ := h; rfl
theorem grown_refl (W : World) (g : Option Nat) : W.grownBy W g := grown_below (Below.refl _ _) g
end Go.K
