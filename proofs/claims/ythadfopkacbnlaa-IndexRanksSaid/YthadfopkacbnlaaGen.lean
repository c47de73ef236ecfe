/-
  Texts of ours joined: Kit, Kw, Mem, Reg, Step, Store, Only, Full, Flag, Flag2, Slice, Open, Flat, Late, Stab, Mark.
-/
import Derived.WalkKit
import Derived.WalkLawsBesides
import Derived.WalkSpells
import Derived.Outline
import Derived.Lib.Hide
import Derived.Laws.AppendOwnNone
import Derived.Orders
import Derived.Maps.AppendAt
import Derived.Laws.CopyRow
import Derived.Deep.MidRow
import Derived.Deep.AppendSrc
import Derived.ProofKit
import Derived.OpenShut
import Derived.ShutString
import Derived.ChangeOld
import Derived.Below
import Derived.SizedLaws
import Derived.Deep.Slices
import Init
/-
  A small library of our own over the kit, the same text for every seat (no program in it): numbers of 64 bits as bit vectors, slices by their cells, small steps.
-/
namespace Go.K
open Go.RowKit

/-! ### Numbers of 64 bits as bit vectors -/
def U64 (x : BitVec 64) : Int := (x.toNat : Int)
theorem U64_lo (x : BitVec 64) : 0 ≤ U64 x := by unfold U64; omega
theorem U64_hi (x : BitVec 64) : U64 x ≤ 18446744073709551615 := by unfold U64; have := x.isLt; omega
theorem U64_ofInt (x : BitVec 64) : BitVec.ofInt 64 (U64 x) = x := by
  unfold U64; rw [BitVec.ofInt_natCast]; simp
theorem U64_inj {x y : BitVec 64} (h : U64 x = U64 y) : x = y := by
  rw [← U64_ofInt x, ← U64_ofInt y, h]
theorem U64_eq_iff (x y : BitVec 64) : (U64 x = U64 y) ↔ x = y := ⟨U64_inj, fun h => h ▸ rfl⟩
theorem U64_beq (x y : BitVec 64) : (U64 x == U64 y) = (x == y) := by
  rw [Bool.eq_iff_iff]; simp [U64_eq_iff]
theorem U64_bne (x y : BitVec 64) : (U64 x != U64 y) = (x != y) := by
  simp [bne, U64_beq]
theorem U64_ofInt_of (n : Int) (h0 : 0 ≤ n) (h1 : n ≤ 18446744073709551615) : U64 (BitVec.ofInt 64 n) = n := by
  unfold U64; rw [BitVec.toNat_ofInt]; omega
theorem wrap_u64_nat (n : Nat) (h : n < 18446744073709551616) : IntKind.u64.wrap (n : Int) = n := by
  rw [IntKind.wrap_u64]; omega
theorem bits_u64_eq (op : BinOp) (f : BitVec 64 → BitVec 64 → BitVec 64)
    (hf : ∀ a b : Int, bits op .u64 a b = IntKind.u64.wrap ((f (BitVec.ofInt 64 a) (BitVec.ofInt 64 b)).toNat : Int)) (x y : Int) :
    bits op .u64 x y = U64 (f (BitVec.ofInt 64 x) (BitVec.ofInt 64 y)) := by
  rw [hf]; exact wrap_u64_nat _ (BitVec.isLt _)
theorem xor_U64 (x y : Int) : bits .xor .u64 x y = U64 (BitVec.ofInt 64 x ^^^ BitVec.ofInt 64 y) := bits_u64_eq .xor (· ^^^ ·) (fun _ _ => rfl) _ _
theorem and_U64 (x y : Int) : bits .and .u64 x y = U64 (BitVec.ofInt 64 x &&& BitVec.ofInt 64 y) := bits_u64_eq .and (· &&& ·) (fun _ _ => rfl) _ _
theorem or_U64 (x y : Int) : bits .or .u64 x y = U64 (BitVec.ofInt 64 x ||| BitVec.ofInt 64 y) := bits_u64_eq .or (· ||| ·) (fun _ _ => rfl) _ _
theorem wrap_U64 (z : Int) : IntKind.u64.wrap z = U64 (BitVec.ofInt 64 z) := by
  unfold U64; rw [IntKind.wrap_u64, BitVec.toNat_ofInt]; omega
theorem ofInt_add64 (a b : Int) : BitVec.ofInt 64 (a + b) = BitVec.ofInt 64 a + BitVec.ofInt 64 b := BitVec.ofInt_add ..
theorem ofInt_mul64 (a b : Int) : BitVec.ofInt 64 (a * b) = BitVec.ofInt 64 a * BitVec.ofInt 64 b := BitVec.ofInt_mul ..
theorem ofInt_neg64 (a : Int) : BitVec.ofInt 64 (-a) = - BitVec.ofInt 64 a := BitVec.ofInt_neg ..
theorem ofInt_nat64 (n : Nat) : BitVec.ofInt 64 (n : Int) = BitVec.ofNat 64 n := BitVec.ofInt_natCast 64 n
theorem shr_U64 (x : BitVec 64) (k : Nat) : U64 x / ((2 ^ k : Nat) : Int) = U64 (x >>> k) := by
  unfold U64; rw [BitVec.toNat_ushiftRight, Nat.shiftRight_eq_div_pow]; rfl
theorem shr_U64_1 (x : BitVec 64) : U64 x / (2 : Int) = U64 (x >>> 1) := shr_U64 x 1
theorem shr_U64_4 (x : BitVec 64) : U64 x / (16 : Int) = U64 (x >>> 4) := shr_U64 x 4
theorem shr_pow (x : BitVec 64) (k : Nat) : U64 x / (2 : Int) ^ k = U64 (x >>> k) := by
  rw [← shr_U64 x k]; simp
theorem U64_ofNat (k : Nat) (h : k < 18446744073709551616) : U64 (BitVec.ofNat 64 k) = (k : Int) := by
  unfold U64; rw [BitVec.toNat_ofNat, Nat.mod_eq_of_lt (by omega)]
theorem U64_and_lt (x : BitVec 64) (m : Nat) : U64 (x &&& BitVec.ofNat 64 m) ≤ m := by
  unfold U64
  have h : (x &&& BitVec.ofNat 64 m).toNat ≤ (BitVec.ofNat 64 m).toNat := by rw [BitVec.toNat_and]; exact Nat.and_le_right
  have : (BitVec.ofNat 64 m).toNat ≤ m := by rw [BitVec.toNat_ofNat]; exact Nat.mod_le _ _
  omega

theorem u64_signed : IntKind.u64.signed = false := rfl
theorem u64_compl (r : BitVec 64) : BitVec.ofInt 64 IntKind.u64.max ^^^ r = ~~~ r := by
  rw [show BitVec.ofInt 64 IntKind.u64.max = BitVec.allOnes 64 from by decide +kernel]
  exact BitVec.allOnes_xor

theorem tdiv_U64_2 (x : BitVec 64) : (U64 x).tdiv 2 = U64 (x >>> 1) := by
  rw [Int.tdiv_eq_ediv_of_nonneg (U64_lo x)]; exact shr_U64 x 1
theorem tmod_U64_2 (x : BitVec 64) : (U64 x).tmod 2 = U64 (x &&& 1#64) := by
  rw [Int.tmod_eq_emod_of_nonneg (U64_lo x)]
  unfold U64
  rw [BitVec.toNat_and, show (1#64).toNat = 2 ^ 1 - 1 from rfl, Nat.and_two_pow_sub_one_eq_mod]
  rfl
theorem and1_cases (x : BitVec 64) : x &&& 1#64 = if x.getLsbD 0 then 1#64 else 0#64 := by
  rw [BitVec.and_one_eq_setWidth_ofBool_getLsbD]
  cases x.getLsbD 0 <;> rfl

/-! ### A frame's end -/
theorem ret_eq {a b : Value} (h : a = b) : Ending.returned a = .returned b := by rw [h]
theorem ret_int {k : IntKind} {a b : Int} (h : a = b) : Ending.returned (.int k a) = .returned (.int k b) := by rw [h]
theorem ret_bool {a b : Bool} (h : a = b) : Ending.returned (.bool a) = .returned (.bool b) := by rw [h]

/-- The world behind what has been shown of it. -/
theorem wp_world {P : Program} {c : Code} {Q : Exit → Act → World → Prop} {a : Act} {w : World} (R : World → Prop) (h : R w) (k : ∀ W, R W → c.wp P Q a W) : c.wp P Q a w := k w h

theorem below_setRow {B : Nat} {a w : World} (h : Below B a w) {g : Nat} (hg : B ≤ g) (cs : Array Value) : Below B a (w.setRow g cs) :=
  h.trans ⟨rfl, rfl, rfl, by simp, fun k hk => setRow_other _ _ _ _ (by omega)⟩

theorem grown_below {w w1 : World} (h : Below w.heap.size w w1) (row : Option Nat) : w.grownBy w1 row :=
  ⟨h.os, h.tape, h.output, h.size, fun k hk _ => h.block k hk⟩
theorem grown_set {w w1 : World} {g : Nat} (h : w.grownBy w1 (some g)) (off : Nat) (u : Value) : w.grownBy (w1.setCell ⟨g, off, none⟩ u) (some g) :=
  ⟨h.os, h.tape, h.output, by simpa [World.setCell] using h.size, fun k hk hne => by
    rw [heap_setCell_other _ _ _ _ (fun e => hne (by rw [e]))]; exact h.block k hk hne⟩
theorem grown_trans {a b c : World} {row : Option Nat} (h : a.grownBy b row) (k : b.grownBy c row) : a.grownBy c row :=
  ⟨k.os.trans h.os, k.tape.trans h.tape, k.output.trans h.output, Nat.le_trans h.size k.size, fun i hi hne => (k.block i (Nat.lt_of_lt_of_le hi h.size) hne).trans (h.block i hi hne)⟩
theorem below_grown {B : Nat} {a w w' : World} {g : Nat} (h : Below B a w) (hg : w.grownBy w' (some g)) (hB : B ≤ w.heap.size) (hr : B ≤ g) : Below B a w' :=
  h.grown hg hB (fun k hk => by cases hk; exact hr)

/-! ### A slice by its cells -/
/-- The slice at 'a' shows the values 'vs', cell by cell (nothing is said of where an empty one lies). -/
def Sl (w : World) (a : Option Addr) (vs : List Value) : Prop :=
  vs ≠ [] → ∃ b off, a = some ⟨b, off, none⟩ ∧ ∀ i, i < vs.length → w.cell? ⟨b, off + i, none⟩ = vs[i]?
theorem Sl.nil (w : World) (a : Option Addr) : Sl w a [] := fun h => absurd rfl h
theorem Sl.below {B : Nat} {w w' : World} {a : Option Addr} {vs : List Value} (h : Sl w a vs) (hb : Below B w w') (ha : ∀ x, a = some x → vs ≠ [] → x.block < B) : Sl w' a vs := by
  intro hne
  obtain ⟨b, off, rfl, hc⟩ := h hne
  have := ha _ rfl hne
  exact ⟨b, off, rfl, fun i hi => by rw [hb.cell (p := ⟨b, off + i, none⟩) this]; exact hc i hi⟩
theorem Sl.lt {w : World} {a : Option Addr} {vs : List Value} (h : Sl w a vs) : ∀ x, a = some x → vs ≠ [] → x.block < w.heap.size := by
  intro x hx hne
  obtain ⟨b, off, rfl, hc⟩ := h hne
  cases hx
  have h0 := hc 0 (List.length_pos_iff.2 hne)
  rw [List.getElem?_eq_getElem (List.length_pos_iff.2 hne)] at h0
  exact World.block_lt_of_cell? w _ h0
/-- What was there before a call is there behind it. -/
theorem Sl.kept {w w' : World} {a : Option Addr} {vs : List Value} (h : Sl w a vs) (hb : Below w.heap.size w w') : Sl w' a vs := h.below hb h.lt

/-! ### Bytes -/
def U8 (c : BitVec 8) : Int := (c.toNat : Int)
theorem U8_lo (x : BitVec 8) : 0 ≤ U8 x := by unfold U8; omega
theorem U8_hi (x : BitVec 8) : U8 x ≤ 255 := by unfold U8; have := x.isLt; omega
theorem U8_ofInt64 (x : BitVec 8) : BitVec.ofInt 64 (U8 x) = x.setWidth 64 := by
  unfold U8; rw [BitVec.ofInt_natCast]
  apply BitVec.eq_of_toNat_eq; simp
theorem U8_ofInt (x : BitVec 8) : BitVec.ofInt 8 (U8 x) = x := by
  unfold U8; rw [BitVec.ofInt_natCast]; simp
theorem U8_inj {x y : BitVec 8} (h : U8 x = U8 y) : x = y := by
  rw [← U8_ofInt x, ← U8_ofInt y, h]
theorem wrap_U8 (z : Int) : IntKind.u8.wrap z = U8 (BitVec.ofInt 8 z) := by
  unfold U8; rw [IntKind.wrap_u8, BitVec.toNat_ofInt]; omega
def vB (c : BitVec 8) : Value := .int .u8 (U8 c)
def vBs (l : List (BitVec 8)) : List Value := l.map vB
theorem vBs_length (l : List (BitVec 8)) : (vBs l).length = l.length := by simp [vBs]
theorem vBs_get (l : List (BitVec 8)) (i : Nat) (h : i < l.length) : (vBs l)[i]? = some (.int .u8 (U8 l[i])) := by
  simp [vBs, List.getElem?_eq_getElem h]; rfl

end Go.K
/-
  Numbers of 32 bits as bit vectors. The same text for every seat (no program in it).
-/
namespace Go.K
open Go.RowKit
def U32 (x : BitVec 32) : Int := (x.toNat : Int)
theorem U32_lo (x : BitVec 32) : 0 ≤ U32 x := by unfold U32; omega
theorem U32_hi (x : BitVec 32) : U32 x ≤ 4294967295 := by unfold U32; have := x.isLt; omega
theorem U32_ofInt (x : BitVec 32) : BitVec.ofInt 32 (U32 x) = x := by
  unfold U32; rw [BitVec.ofInt_natCast]; simp
theorem U32_inj {x y : BitVec 32} (h : U32 x = U32 y) : x = y := by
  rw [← U32_ofInt x, ← U32_ofInt y, h]
theorem wrap_U32 (z : Int) : IntKind.u32.wrap z = U32 (BitVec.ofInt 32 z) := by
  unfold U32; rw [IntKind.wrap_u32, BitVec.toNat_ofInt]; omega
theorem U32_ofInt64 (x : BitVec 32) : BitVec.ofInt 64 (U32 x) = x.setWidth 64 := by
  unfold U32; rw [BitVec.ofInt_natCast]
  apply BitVec.eq_of_toNat_eq; simp
theorem U64_ofInt32 (x : BitVec 64) : BitVec.ofInt 32 (U64 x) = x.setWidth 32 := by
  unfold U64; rw [BitVec.ofInt_natCast]
  apply BitVec.eq_of_toNat_eq; simp
theorem bits_u32_eq (op : BinOp) (f : BitVec 32 → BitVec 32 → BitVec 32)
    (hf : ∀ a b : Int, bits op .u32 a b = IntKind.u32.wrap ((f (BitVec.ofInt 32 a) (BitVec.ofInt 32 b)).toNat : Int)) (x y : Int) :
    bits op .u32 x y = U32 (f (BitVec.ofInt 32 x) (BitVec.ofInt 32 y)) := by
  rw [hf, IntKind.wrap_u32]; unfold U32; have := (f (BitVec.ofInt 32 x) (BitVec.ofInt 32 y)).isLt; omega
theorem xor_U32 (x y : Int) : bits .xor .u32 x y = U32 (BitVec.ofInt 32 x ^^^ BitVec.ofInt 32 y) := bits_u32_eq .xor (· ^^^ ·) (fun _ _ => rfl) _ _
theorem and_U32 (x y : Int) : bits .and .u32 x y = U32 (BitVec.ofInt 32 x &&& BitVec.ofInt 32 y) := bits_u32_eq .and (· &&& ·) (fun _ _ => rfl) _ _
theorem or_U32 (x y : Int) : bits .or .u32 x y = U32 (BitVec.ofInt 32 x ||| BitVec.ofInt 32 y) := bits_u32_eq .or (· ||| ·) (fun _ _ => rfl) _ _
theorem shr_U32 (x : BitVec 32) (k : Nat) : U32 x / ((2 ^ k : Nat) : Int) = U32 (x >>> k) := by
  unfold U32; rw [BitVec.toNat_ushiftRight, Nat.shiftRight_eq_div_pow]; rfl
theorem shl_U32 (x : BitVec 32) (k : Nat) : BitVec.ofInt 32 (U32 x * ((2 ^ k : Nat) : Int)) = x <<< k := by
  unfold U32
  apply BitVec.eq_of_toNat_eq
  rw [← Int.natCast_mul, BitVec.ofInt_natCast, BitVec.toNat_ofNat, BitVec.toNat_shiftLeft, Nat.shiftLeft_eq]
theorem U32_eq_iff (x y : BitVec 32) : (U32 x = U32 y) ↔ x = y := ⟨U32_inj, fun h => h ▸ rfl⟩
theorem U32_beq (x y : BitVec 32) : (U32 x == U32 y) = (x == y) := by
  rw [Bool.eq_iff_iff]; simp [U32_eq_iff]
theorem U32_bne (x y : BitVec 32) : (U32 x != U32 y) = (x != y) := by
  simp [bne, U32_beq]
theorem u32_signed : IntKind.u32.signed = false := rfl

/-! ### Blocks -/
theorem lt_row {w : World} {g : Nat} {o : Obj} (h : w.heap[g]? = some o) : g < w.heap.size := (Array.getElem?_eq_some_iff.1 h).1
theorem alloc_at {w : World} {n : Nat} {o : Obj} (h : n = w.heap.size) : (w.alloc o).heap[n]? = some o := by subst h; exact heap_alloc_new _ _
theorem alloc_old {w : World} {n : Nat} {o p : Obj} (h : w.heap[n]? = some o) : (w.alloc p).heap[n]? = some o := by
  have := lt_row h
  show (w.heap.push p)[n]? = some o
  rw [Array.getElem?_push, if_neg (by omega)]; exact h
theorem row_away {W W' : World} {n : Nat} {o : Obj} (h : W.heap[n]? = some o) {r : Nat} (hg : W.grownBy W' (some r)) (hr : r ≠ n) : W'.heap[n]? = some o :=
  (hg.block n (lt_row h) (fun e => by injection e with e; exact hr e.symm)).trans h
theorem row_kept {W W' : World} {n : Nat} {o : Obj} (h : W.heap[n]? = some o) (hb : Below W.heap.size W W') : W'.heap[n]? = some o := (hb.block n (lt_row h)).trans h
theorem below_drawn {B : Nat} {a w : World} (h : Below B a w) (n : Nat) : Below B a { w with drawn := n } := h.trans ⟨rfl, rfl, rfl, Nat.le_refl _, fun _ _ => rfl⟩
theorem grown_cell {W W' : World} {r : Nat} (hg : W.grownBy W' (some r)) {b o : Nat} {v : Value} (h : W.cell? ⟨b, o, none⟩ = some v) (hr : r ≠ b) : W'.cell? ⟨b, o, none⟩ = some v := by
  have hb := World.block_lt_of_cell? W _ h
  rw [← h]; unfold World.cell?
  rw [hg.block b hb (fun e => by injection e with e; exact hr e.symm)]
theorem below_cell {W W' : World} (hb : Below W.heap.size W W') {a : Addr} {v : Value} (h : W.cell? a = some v) : W'.cell? a = some v := by
  rw [hb.cell (p := a) (World.block_lt_of_cell? W _ h)]; exact h
/-- The same but for the draws. -/
def Qt (w w' : World) : Prop := ∃ n, w' = { w with drawn := n }
theorem Qt.refl (w : World) : Qt w w := ⟨w.drawn, rfl⟩
theorem Qt.heap {w w' : World} (h : Qt w w') : w'.heap = w.heap := by obtain ⟨n, rfl⟩ := h; rfl
theorem Qt.below {w w' : World} (h : Qt w w') (B : Nat) : Below B w w' := by obtain ⟨n, rfl⟩ := h; exact ⟨rfl, rfl, rfl, Nat.le_refl _, fun _ _ => rfl⟩
theorem Qt.drewN (w : World) (n : Nat) : Qt w (w.drewN n) := ⟨_, rfl⟩
theorem Qt.trans {a b c : World} (h : Qt a b) (k : Qt b c) : Qt a c := by obtain ⟨n, rfl⟩ := h; obtain ⟨m, rfl⟩ := k; exact ⟨m, rfl⟩
theorem Qt.sl {w w' : World} (h : Qt w w') {a : Option Addr} {vs : List Value} (hs : Sl w a vs) : Sl w' a vs := hs.kept (h.below _)
theorem Qt.cell {w w' : World} (h : Qt w w') (a : Addr) : w'.cell? a = w.cell? a := by obtain ⟨n, rfl⟩ := h; rfl
theorem grown_refl (W : World) (g : Option Nat) : W.grownBy W g := grown_below (Below.refl _ _) g
end Go.K
/-
  Slices that a call made itself, appended to from any slice; readings kept; the same text for every seat (no program in it).
-/
namespace Go.K
open Go.RowKit
set_option linter.unusedVariables false

/-- A contract handed on to a world that began earlier. -/
theorem onto {P : Program} {f : FuncId} {args : Array Value} {w w0 : World} {v : Value} (h : Calls P f args w fun e w' => e = .returned v ∧ Below w.heap.size w w') (hB : Below w0.heap.size w0 w) :
    Calls P f args w fun e w' => e = .returned v ∧ Below w0.heap.size w0 w' := h.mono fun _ _ ⟨he, hb⟩ => ⟨he, hB.trans (hb.mono hB.size)⟩
theorem onto_same {P : Program} {f : FuncId} {args : Array Value} {w w0 : World} {v : Value} (h : Calls P f args w fun e w' => e = .returned v ∧ w = w') (hB : Below w0.heap.size w0 w) :
    Calls P f args w fun e w' => e = .returned v ∧ Below w0.heap.size w0 w' := h.mono fun _ _ ⟨he, hb⟩ => ⟨he, hb ▸ hB⟩

theorem add_spot (b off j : Nat) : (⟨b, off, none⟩ : Addr).add j = ⟨b, off + j, none⟩ := by
  unfold Addr.add
  split
  · rename_i h; subst h; rfl
  · rfl
theorem Sl.cells {w : World} {a : Addr} {vs : List Value} (h : Sl w (some a) vs) : ∀ j u, vs[j]? = some u → w.cell? (a.add j) = some u := by
  intro j u hu
  have hj : j < vs.length := (List.getElem?_eq_some_iff.1 hu).1
  obtain ⟨b, off, he, hc⟩ := h (fun e => by rw [e] at hj; cases hj)
  cases he
  rw [add_spot, hc j hj, hu]
theorem Sl.none {w : World} {vs : List Value} (h : Sl w none vs) : vs = [] := by
  rcases vs with _ | ⟨x, r⟩
  · rfl
  · obtain ⟨b, off, he, _⟩ := h (fun e => by cases e)
    cases he
theorem sl_new (w : World) (cs : List Value) (t : TypeId) (fr : Nat × Nat) : Sl (w.alloc (.cells cs.toArray t fr)) (some ⟨w.heap.size, 0, Option.none⟩) cs :=
  fun _ => ⟨w.heap.size, 0, rfl, fun i _ => by rw [cell_of_row _ _ _ _ _ _ (heap_alloc_new _ _), Nat.zero_add]; simp⟩
theorem one_int (k : IntKind) (n : Int) : ∀ u ∈ [Value.int k n], u.oneCell' = true := by
  intro u hu
  rw [List.mem_singleton] at hu
  subst hu; rfl
/-- Where a piece of a slice begins, as the model has it. -/
def piece (a : Option Addr) (lo cap size : Nat) : Option Addr := if cap = lo then a else a.map (·.add (lo * size))
theorem run_slice_lohi {P : Program} {t e : TypeId} {size : Nat} (h : P.underlying t = some (.slice e)) (hz : (P.info? e).map (·.size) = some size) (a : Option Addr) (len cap : Nat) (k k' : IntKind) (lo hi : Int) (L n : Nat)
    (h1 : lo = L) (h2 : hi = ((L + n : Nat) : Int)) (h3 : L + n ≤ cap) (w : World) :
    (Instr.slice t (.slice a len cap) (some (.int k lo)) (some (.int k' hi)) none).run P w = .ok (.slice (piece a L cap size) n (cap - L)) w := by
  obtain ⟨i, hi', hs⟩ := Option.map_eq_some_iff.1 hz
  subst h1 h2 hs
  have c1 : (0 : Int) ≤ ((L + n : Nat) : Int) ∧ ((L + n : Nat) : Int) ≤ (cap : Int) := by omega
  have c2 : (0 : Int) ≤ (L : Int) ∧ (L : Int) ≤ ((L + n : Nat) : Int) := by omega
  simp only [Instr.slice, Instr.sliceBounds, Instr.sliceBound, asIntOf, run_underlying h, sizeOf, typeInfo, Sem.run_bind, Sem.run_pure, Result.andThen_ok, if_pos c1, if_pos c2, Int.toNat_natCast, Option.isSome, piece, Nat.add_sub_cancel_left]
  simp [hi']
theorem run_slice_lo {P : Program} {t e : TypeId} {size : Nat} (h : P.underlying t = some (.slice e)) (hz : (P.info? e).map (·.size) = some size) (a : Option Addr) (len cap : Nat) (k : IntKind) (lo : Int) (L n : Nat)
    (h1 : lo = L) (h2 : len = L + n) (w : World) :
    (Instr.slice t (.slice a len cap) (some (.int k lo)) none none).run P w = .ok (.slice (piece a L cap size) n (cap - L)) w := by
  obtain ⟨i, hi', hs⟩ := Option.map_eq_some_iff.1 hz
  subst h1 h2 hs
  have c2 : (0 : Int) ≤ (L : Int) ∧ (L : Int) ≤ ((L + n : Nat) : Int) := by omega
  simp only [Instr.slice, Instr.sliceBounds, Instr.sliceBound, asIntOf, run_underlying h, sizeOf, typeInfo, Sem.run_bind, Sem.run_pure, Result.andThen_ok, if_pos c2, Int.toNat_natCast, Option.isSome, piece, Nat.add_sub_cancel_left]
  simp [hi']
theorem sl_piece {w : World} {a : Option Addr} {vs : List Value} (h : Sl w a vs) (lo cap size : Nat) (hc : vs.length ≤ cap * size) : Sl w (piece a lo cap size) (vs.drop (lo * size)) := by
  intro hne
  have hlt : lo * size < vs.length := by
    rcases Nat.lt_or_ge (lo * size) vs.length with h' | h'
    · exact h'
    · exact absurd (List.drop_of_length_le h') hne
  obtain ⟨b, off, rfl, hcell⟩ := h (fun e => by rw [e] at hlt; simp at hlt)
  have hcl : cap ≠ lo := fun e => by subst e; omega
  refine ⟨b, off + lo * size, ?_, fun i hi => ?_⟩
  · unfold piece; rw [if_neg hcl]; simp [add_spot]
  · rw [List.length_drop] at hi
    rw [Nat.add_assoc, hcell _ (by omega), List.getElem?_drop]
/-- append onto a slice of the call's own, of what any slice shows. -/
theorem wpList_append_sl {P : Program} {w : World} {ops : Array Oper} {rest : List Oper} {o : Oper} {a : Act} {Q : Exit → Act → World → Prop} (hgd : o.guard = none) (s x : Operand) (t : TypeId)
    (ho : o.op = .call { callee := .builtin .append, args := #[s, x], argTypes := #[t, t] })
    (base : Nat) (e : TypeId) (z : Value) (size bytes : Nat) (ht : P.underlying t = some (.slice e)) (hinfo : (P.info? e).map (fun i => (i.zero, i.size, i.bytes)) = some (some z, size, bytes))
    (hzs : z.cells.size = size) (hsz : 0 < size)
    (v : Value) (n : Nat) (xs : List Value) (hs : a.eval s = v) (hown : w.ownsRow base e size v n xs)
    (ad : Option Addr) (m c : Nat) (news : List Value) (hx : a.eval x = .slice ad m c) (hc0 : ad = none → m = 0 ∧ c = 0) (hl : news.length = m * size) (hsl : Sl w ad news) (h1 : ∀ u ∈ news, u.oneCell' = true)
    (h63 : n + m ≤ maxLen) (hbytes : (n + m) * bytes ≤ 140737488355328) (hbase : base ≤ w.heap.size)
    (h : ∀ v' w', w'.ownsRow base e size v' (n + m) (xs ++ news) → w.grownBy w' v.ownBlock → wpList P ops Q rest (a.put o.dst v') w') : wpList P ops Q (o :: rest) a w := by
  obtain ⟨i, hi, hz, hsize, hby⟩ := info_parts hinfo
  cases ad with
  | none =>
    obtain ⟨rfl, rfl⟩ := hc0 rfl
    have hn := hsl.none
    subst hn
    refine wpList_append_own_none hgd s x t ho base e i size ht hi v n xs hs hown hx (h v w (by simpa using hown) ?_)
    exact ⟨rfl, rfl, rfl, Nat.le_refl _, fun _ _ _ => rfl⟩
  | some ad =>
    exact wpList_append_own w hgd s x t ho base e i z size bytes ht hi hz hsize hby hzs hsz v n xs hs hown ad m c news hx hl hsl.cells h1 h63 hbytes hbase (fun v' w' h2 h3 _ => h v' w' h2 h3)

/-- What an owned row shows. -/
theorem sl_of_owns {w : World} {base : Nat} {e : TypeId} {size n : Nat} {g cap : Nat} {xs : List Value} (h : w.ownsRow base e size (.slice (some ⟨g, 0, none⟩) n cap) n xs) : Sl w (some ⟨g, 0, none⟩) xs := by
  intro _
  refine ⟨g, 0, rfl, fun i hi => ?_⟩
  have := h.cells (g := g) rfl i xs[i] (List.getElem?_eq_getElem hi)
  rw [add_spot] at this
  rw [this, List.getElem?_eq_getElem hi]
theorem oneCell_vBs (l : List (BitVec 8)) : ∀ u ∈ vBs l, u.oneCell' = true := by
  intro u hu
  obtain ⟨c, _, rfl⟩ := List.mem_map.1 hu
  rfl
theorem vBs_append (l m : List (BitVec 8)) : vBs (l ++ m) = vBs l ++ vBs m := by simp [vBs]
/-- Where an owned row lies, if it is not nil. -/
theorem owns_cases {w : World} {base : Nat} {e : TypeId} {size n : Nat} {v : Value} {xs : List Value} (h : w.ownsRow base e size v n xs) (hn : 0 < n) :
    ∃ g cap cur, v = .slice (some ⟨g, 0, none⟩) n cap ∧ base ≤ g ∧ w.heap[g]? = some (.cells cur e (0, 0)) ∧ n ≤ cap ∧ cap ≤ maxLen ∧ cur.size = cap * size ∧ cur.toList.take (n * size) = xs := by
  rcases h.2 with ⟨_, h0⟩ | h
  · omega
  · exact h
theorem owns_below {w w' : World} {B : Nat} {base : Nat} {e : TypeId} {size n : Nat} {v : Value} {xs : List Value} (h : w.ownsRow base e size v n xs) (hb : Below w.heap.size w w') : w'.ownsRow base e size v n xs :=
  h.kept (grown_below hb Option.none) (by
    cases hv : v.ownBlock with
    | none => exact .inl rfl
    | some k => exact .inr (by simp))
end Go.K
/-
  A region that draws its order, walked once in the order of the text, whatever its operations do to memory, as long as each yields one value in every world of a class and leaves a world of that class; a tail that waits for all before it is walked as it stands. The same text for every seat (no program in it).
-/
namespace Go.K
set_option linter.unusedVariables false
set_option linter.unusedSimpArgs false

section
variable {P : Program} {ops : Array Oper} {C : World → Prop} {Q : Exit → Act → World → Prop}

/-- In a world of the class the run yields v and leaves a world of the class. -/
def InvRun (P : Program) (C : World → Prop) (v : Value) : Result Next → Prop
  | .ok (.value u) w' => C w' ∧ u = v
  | .ok .skip w' => C w' ∧ v = undef
  | .ok (.enter f args) w' => Calls P f args w' (fun e w'' => e = .returned v ∧ C w'')
  | _ => False
/-- Operations, one behind the other, from a frame: each yields one value in every world of the class. -/
def wpInv (P : Program) (ops : Array Oper) (C : World → Prop) (T : Act → Prop) : List Oper → Act → Prop
  | [], a => T a
  | o :: rest, a =>
    (Region.wanted o (yielded ops a.tmps) = true ∧ ∃ v, (∀ w, C w → InvRun P C v ((execOp a.eval o).run P w)) ∧ wpInv P ops C T rest (a.put o.dst v)) ∨
    (Region.wanted o (yielded ops a.tmps) = false ∧ wpInv P ops C T rest (a.put o.dst undef))
variable {T : Act → Prop}
theorem wpInv_nil {a : Act} (h : T a) : wpInv P ops C T [] a := h
theorem wpInv_cons {o : Oper} {rest : List Oper} {a : Act} (v : Value) (hw : Region.wanted o (yielded ops a.tmps) = true) (h : ∀ w, C w → InvRun P C v ((execOp a.eval o).run P w))
    (hk : wpInv P ops C T rest (a.put o.dst v)) : wpInv P ops C T (o :: rest) a := .inl ⟨hw, v, h, hk⟩
theorem wpInv_skip {o : Oper} {rest : List Oper} {a : Act} (hw : Region.wanted o (yielded ops a.tmps) = false)
    (hk : wpInv P ops C T rest (a.put o.dst undef)) : wpInv P ops C T (o :: rest) a := .inr ⟨hw, hk⟩
/-- What one operation does from a frame, and what is asked behind it. -/
def invOne (P : Program) (ops : Array Oper) (C : World → Prop) (o : Oper) (a : Act) (K : Act → Prop) : Prop :=
  (Region.wanted o (yielded ops a.tmps) = true ∧ ∃ v, (∀ w, C w → InvRun P C v ((execOp a.eval o).run P w)) ∧ K (a.put o.dst v)) ∨
  (Region.wanted o (yielded ops a.tmps) = false ∧ K (a.put o.dst undef))
theorem invOne_mono {o : Oper} {a : Act} {K K' : Act → Prop} (h : ∀ a, K a → K' a) (hh : invOne P ops C o a K) : invOne P ops C o a K' := by
  rcases hh with ⟨h1, v, h2, h3⟩ | ⟨h1, h2⟩
  · exact .inl ⟨h1, v, h2, h _ h3⟩
  · exact .inr ⟨h1, h _ h2⟩
theorem wpInv_one {o : Oper} {rest : List Oper} {a : Act} : wpInv P ops C T (o :: rest) a ↔ invOne P ops C o a (wpInv P ops C T rest) := Iff.rfl
/-- Two operations that are apart change places. -/
theorem invOne_swap {o p : Oper} (hap : o.apart ops p = true) (hso : ∀ cs b, o.op ≠ .select cs b) (hsp : ∀ cs b, p.op ≠ .select cs b) {a : Act} {K : Act → Prop}
    (h : invOne P ops C p a (fun a' => invOne P ops C o a' K)) : invOne P ops C o a (fun a' => invOne P ops C p a' K) := by
  obtain ⟨h1, h2, h3⟩ := Oper.apart_spec hap
  have keyO : ∀ u, execOp (a.put p.dst u).eval o = execOp a.eval o := fun u => execOp_put o hso a p.dst u h3
  have keyP : ∀ u, execOp (a.put o.dst u).eval p = execOp a.eval p := fun u => execOp_put p hsp a o.dst u h1
  have wO : ∀ u, Region.wanted o (yielded ops (a.put p.dst u).tmps) = Region.wanted o (yielded ops a.tmps) := fun u => wanted_put o a p.dst u h3
  have wP : ∀ u, Region.wanted p (yielded ops (a.put o.dst u).tmps) = Region.wanted p (yielded ops a.tmps) := fun u => wanted_put p a o.dst u h1
  rcases h with ⟨hp, u, hu, ho⟩ | ⟨hp, ho⟩
  · rcases ho with ⟨hw, v, hv, hk⟩ | ⟨hw, hk⟩
    · rw [wO] at hw
      refine .inl ⟨hw, v, fun w hc => by have := hv w hc; rwa [keyO] at this, .inl ⟨by rw [wP]; exact hp, u, fun w hc => by rw [keyP]; exact hu w hc, ?_⟩⟩
      rw [Act.put_comm a v u h2]; exact hk
    · rw [wO] at hw
      refine .inr ⟨hw, .inl ⟨by rw [wP]; exact hp, u, fun w hc => by rw [keyP]; exact hu w hc, ?_⟩⟩
      rw [Act.put_comm a undef u h2]; exact hk
  · rcases ho with ⟨hw, v, hv, hk⟩ | ⟨hw, hk⟩
    · rw [wO] at hw
      refine .inl ⟨hw, v, fun w hc => by have := hv w hc; rwa [keyO] at this, .inr ⟨by rw [wP]; exact hp, ?_⟩⟩
      rw [Act.put_comm a v undef h2]; exact hk
    · rw [wO] at hw
      refine .inr ⟨hw, .inr ⟨by rw [wP]; exact hp, ?_⟩⟩
      rw [Act.put_comm a undef undef h2]; exact hk
theorem wpInv_take {o : Oper} (hso : ∀ cs b, o.op ≠ .select cs b) {post : List Oper} : ∀ (pre : List Oper), (∀ p ∈ pre, o.apart ops p = true ∧ ∀ cs b, p.op ≠ .select cs b) →
    ∀ a, wpInv P ops C T (pre ++ o :: post) a → invOne P ops C o a (wpInv P ops C T (pre ++ post))
  | [], _, _, h => h
  | p :: pre, hp, a, h => by
    have h' : invOne P ops C p a (wpInv P ops C T (pre ++ o :: post)) := h
    have h2 := invOne_mono (K' := fun a' => invOne P ops C o a' (wpInv P ops C T (pre ++ post))) (fun a' h3 => wpInv_take hso pre (fun q hq => hp q (List.mem_cons_of_mem _ hq)) a' h3) h'
    exact invOne_swap (hp p (List.mem_cons_self ..)).1 hso (hp p (List.mem_cons_self ..)).2 h2

/-- What is looked at once, by the kernel, of a region and of the place at which its tail begins. -/
def waitsOn (o : Oper) (j : Nat) : Bool := o.after.any fun e => Region.binds .any e && e.on == j
def regB (ops : Array Oper) (m : Nat) : Bool :=
  Region.noSelect ops && decide (m ≤ ops.size) && (List.range ops.size).all fun i => match ops[i]? with
    | none => false
    | some o => (o.after.all fun e => !Region.binds .any e || decide (e.on < i)) &&
      (List.range i).all fun j => match ops[j]? with
        | none => false
        | some p => waitsOn o j || (decide (i < m) && o.apart ops p)
theorem regB_spec {m : Nat} (h : regB ops m = true) :
    Region.noSelect ops = true ∧ m ≤ ops.size ∧ (∀ i o, ops[i]? = some o → ∀ e ∈ o.after, Region.binds .any e = true → e.on < i) ∧
    ∀ i o, ops[i]? = some o → ∀ j p, j < i → ops[j]? = some p → waitsOn o j = true ∨ (i < m ∧ o.apart ops p = true) := by
  unfold regB at h
  simp only [Bool.and_eq_true, decide_eq_true_eq, List.all_eq_true, List.mem_range] at h
  obtain ⟨⟨h1, h2⟩, h3⟩ := h
  refine ⟨h1, h2, ?_, ?_⟩
  · intro i o ho e he hb
    have := h3 i (Array.getElem?_eq_some_iff.1 ho).1
    rw [ho] at this
    simp only [Bool.and_eq_true, Array.all_eq_true_iff_forall_mem, Bool.or_eq_true, Bool.not_eq_true', decide_eq_true_eq] at this
    exact (this.1 e he).resolve_left (by simp [hb])
  · intro i o ho j p hj hp
    have := h3 i (Array.getElem?_eq_some_iff.1 ho).1
    rw [ho] at this
    simp only [Bool.and_eq_true, List.all_eq_true, List.mem_range] at this
    have h4 := this.2 j hj
    rw [hp] at h4
    simpa using h4
theorem waits_listed {o : Oper} {listed : Array Bool} {j : Nat} (h : waitsOn o j = true) (hall : ∀ e ∈ o.after, Region.binds .any e = true → listed.getD e.on false = true) : listed.getD j false = true := by
  unfold waitsOn at h
  obtain ⟨e, he, hb⟩ := Array.any_eq_true'.1 h
  simp only [Bool.and_eq_true, beq_iff_eq] at hb
  have := hall e he hb.1
  rwa [hb.2] at this

/-- The indices below m that have not come up, and their operations. -/
def unH (ops : Array Oper) (listed : Array Bool) (m : Nat) : List Nat := (List.range m).filter fun i => !listed.getD i true
def opsAt (ops : Array Oper) (l : List Nat) : List Oper := l.filterMap (ops[·]?)
theorem opsAt_append (a b : List Nat) : opsAt ops (a ++ b) = opsAt ops a ++ opsAt ops b := List.filterMap_append ..
theorem opsAt_cons {i : Nat} {o : Oper} (l : List Nat) (h : ops[i]? = some o) : opsAt ops (i :: l) = o :: opsAt ops l := by simp [opsAt, h]
theorem mem_unH {listed : Array Bool} {m i : Nat} : i ∈ unH ops listed m ↔ i < m ∧ listed.getD i true = false := by
  simp [unH, List.mem_filter]
theorem unH_sorted (listed : Array Bool) (m : Nat) : (unH ops listed m).Pairwise (· < ·) := List.Pairwise.filter _ List.pairwise_lt_range
theorem unH_split {listed : Array Bool} {m i : Nat} (hi : i ∈ unH ops listed m) : ∃ pre post, unH ops listed m = pre ++ i :: post ∧ (∀ j ∈ pre, j < i) ∧
    unH ops (listed.setIfInBounds i true) m = pre ++ post := by
  obtain ⟨pre, post, he⟩ := List.append_of_mem hi
  have hs := unH_sorted (ops := ops) listed m
  rw [he, List.pairwise_append] at hs
  obtain ⟨_, h2, h3⟩ := hs
  rw [List.pairwise_cons] at h2
  refine ⟨pre, post, he, fun j hj => h3 j hj i (List.mem_cons_self ..), ?_⟩
  have hf : unH ops (listed.setIfInBounds i true) m = (unH ops listed m).filter (fun j => decide (j ≠ i)) := by
    unfold unH
    rw [List.filter_filter]
    refine List.filter_congr fun j hj => ?_
    by_cases e : i = j
    · subst e
      have hz : i < listed.size := by
        rcases Nat.lt_or_ge i listed.size with h' | h'
        · exact h'
        · have := (mem_unH.1 hi).2; simp [Array.getElem?_eq_none h'] at this
      simp [hz]
    · rw [getD_set_ne true e]
      have : j ≠ i := fun h => e h.symm
      simp [this]
  rw [hf, he, List.filter_append]
  have hp : pre.filter (fun j => decide (j ≠ i)) = pre := List.filter_eq_self.2 fun j hj => by have := h3 j hj i (List.mem_cons_self ..); simp; omega
  have hq : post.filter (fun j => decide (j ≠ i)) = post := List.filter_eq_self.2 fun j hj => by have := h2.1 j hj; simp; omega
  rw [hp, List.filter_cons_of_neg (by simp), hq]

theorem invOne_wp {i : Nat} {o : Oper} (ho : ops[i]? = some o) {a : Act} {w : World} {K : Act → Prop} {K' : Act → World → Prop} (hw : C w) (hk : ∀ a w, C w → K a → K' a w) (h : invOne P ops C o a K) : wpOp P ops Q i K' a w := by
  unfold wpOp
  rw [ho]
  dsimp only
  rcases h with ⟨h1, v, h2, h3⟩ | ⟨h1, h2⟩
  · rw [if_pos h1]
    left
    have h4 := h2 w hw
    unfold Oper.wp
    generalize (execOp a.eval o).run P w = r at h4
    cases r with
    | ok n w' =>
      cases n <;> simp only [InvRun] at h4 <;> simp only [Oper.upon]
      case value u =>
        obtain ⟨hc, rfl⟩ := h4
        exact hk _ _ hc h3
      case skip =>
        obtain ⟨hc, rfl⟩ := h4
        exact hk _ _ hc h3
      case enter f args =>
        exact h4.mono fun e w'' ⟨he, hc⟩ => by subst he; exact hk _ _ hc h3
    | halt x w' => simp only [InvRun] at h4
  · rw [if_neg (by simp [h1])]
    exact hk _ _ hw h2

variable {m : Nat}
/-- The tail alone is left. -/
theorem any_tail (hB : regB ops m = true) : ∀ (d k fuel : Nat) (listed : Array Bool) (a : Act) (w : World), m ≤ k → k + d = ops.size → listed.size = ops.size → (∀ j, j < ops.size → listed.getD j true = decide (j < k)) →
    wpOps P ops Q (List.range' k d) a w → d ≤ fuel → wpAny P .any ops Q fuel listed a w := by
  obtain ⟨hns, hm, hdn, hap⟩ := regB_spec hB
  intro d
  induction d with
  | zero =>
    intro k fuel listed a w hk hd hsz hl h _
    have hr : Region.ready .any ops listed = [] := by
      rw [List.eq_nil_iff_forall_not_mem]
      intro i hi
      obtain ⟨h0, o, ho, _⟩ := mem_ready.1 hi
      have hi' := (Array.getElem?_eq_some_iff.1 ho).1
      rw [hl i hi'] at h0
      simp at h0; omega
    cases fuel with
    | zero => exact ⟨hr, h⟩
    | succ fuel => exact ⟨fun _ => h, fun i hi => by rw [hr] at hi; cases hi⟩
  | succ d ih =>
    intro k fuel listed a w hk hd hsz hl h hf
    have hkn : k < ops.size := by omega
    have hnot : ∀ j, j < ops.size → listed.getD j false = decide (j < k) := by
      intro j hj
      have := hl j hj
      have hj' : j < listed.size := by omega
      simp [hj'] at this ⊢
      exact this
    cases fuel with
    | zero => omega
    | succ fuel =>
      have hkr : k ∈ Region.ready .any ops listed := by
        refine mem_ready.2 ⟨by rw [hl k hkn]; simp, ops[k], Array.getElem?_eq_getElem hkn, fun e he hb => ?_⟩
        have := hdn k _ (Array.getElem?_eq_getElem hkn) e he hb
        rw [hnot _ (by omega)]; simpa using this
      refine ⟨fun h0 => (by rw [h0] at hkr; cases hkr), fun i hi => ?_⟩
      obtain ⟨h0, o, ho, hall⟩ := mem_ready.1 hi
      have hin := (Array.getElem?_eq_some_iff.1 ho).1
      rw [hl i hin] at h0
      have hik : k ≤ i := by simpa using h0
      have : i = k := by
        rcases Nat.lt_or_eq_of_le hik with hlt | he
        · exfalso
          have h1 := hap i o ho k ops[k] hlt (Array.getElem?_eq_getElem hkn)
          rcases h1 with h1 | ⟨h1, _⟩
          · have := waits_listed h1 hall
            rw [hnot k hkn] at this; simp at this
          · omega
        · exact he.symm
      subst this
      rw [List.range'_succ, wpOps_cons] at h
      refine wpOp_mono (fun a' w' h' => ih (i + 1) fuel _ a' w' (by omega) (by omega) (by simpa using hsz) (fun j hj => ?_) h' (by omega)) h
      by_cases e : i = j
      · subst e
        have : i < listed.size := by omega
        simp [this]
      · rw [getD_set_ne true e, hl j hj]
        congr 1
        apply propext; omega
theorem any_inv (hB : regB ops m = true) (hT : ∀ a w, C w → T a → wpOps P ops Q (List.range' m (ops.size - m)) a w) : ∀ (n fuel : Nat) (listed : Array Bool) (a : Act) (w : World), C w → (unH ops listed m).length = n →
    listed.size = ops.size → (∀ j, m ≤ j → j < ops.size → listed.getD j true = false) → wpInv P ops C T (opsAt ops (unH ops listed m)) a → n + (ops.size - m) ≤ fuel → wpAny P .any ops Q fuel listed a w := by
  obtain ⟨hns, hm, hdn, hap⟩ := regB_spec hB
  intro n
  induction n with
  | zero =>
    intro fuel listed a w hc hn hsz htl h hf
    have hnil : unH ops listed m = [] := List.eq_nil_of_length_eq_zero hn
    rw [hnil] at h
    refine any_tail hB (ops.size - m) m fuel listed a w (Nat.le_refl _) (by omega) hsz (fun j hj => ?_) (hT a w hc h) (by omega)
    rcases Nat.lt_or_ge j m with h1 | h1
    · have : j ∉ unH ops listed m := by rw [hnil]; exact List.not_mem_nil
      rw [mem_unH] at this
      simp [h1] at this
      have hj' : j < listed.size := by omega
      simp [hj'] at this ⊢
      rw [this]; simp [h1]
    · rw [htl j h1 hj]; simp; omega
  | succ n ih =>
    intro fuel listed a w hc hn hsz htl h hf
    have hgd : ∀ j, j < ops.size → listed.getD j true = false → listed.getD j false = false := by
      intro j hj h1
      have hj' : j < listed.size := by omega
      simp [hj'] at h1 ⊢; exact h1
    have hgt : ∀ j, j < ops.size → listed.getD j false = false → listed.getD j true = false := by
      intro j hj h1
      have hj' : j < listed.size := by omega
      simp [hj'] at h1 ⊢; exact h1
    cases fuel with
    | zero => omega
    | succ fuel =>
      refine ⟨fun h0 => ?_, fun i hi => ?_⟩
      · exfalso
        cases hu : unH ops listed m with
        | nil => rw [hu] at hn; cases hn
        | cons i rest =>
          have hs := unH_sorted (ops := ops) listed m
          have hmem := mem_unH.1 (show i ∈ unH ops listed m by rw [hu]; exact List.mem_cons_self ..)
          have hin : i < ops.size := by omega
          have : i ∈ Region.ready .any ops listed := by
            refine mem_ready.2 ⟨hmem.2, ops[i], Array.getElem?_eq_getElem hin, fun e he hb => ?_⟩
            have hlt := hdn i _ (Array.getElem?_eq_getElem hin) e he hb
            cases hx : listed.getD e.on false
            · exfalso
              have hm2 : e.on ∈ unH ops listed m := mem_unH.2 ⟨by omega, hgt _ (by omega) hx⟩
              rw [hu] at hm2 hs
              rcases List.mem_cons.1 hm2 with h1 | h1
              · omega
              · have := (List.pairwise_cons.1 hs).1 _ h1; omega
            · rfl
          rw [h0] at this; cases this
      · obtain ⟨h0, o, ho, hall⟩ := mem_ready.1 hi
        have hin := (Array.getElem?_eq_some_iff.1 ho).1
        have him : i < m := by
          rcases Nat.lt_or_ge i m with h1 | h1
          · exact h1
          · exfalso
            cases hu : unH ops listed m with
            | nil => rw [hu] at hn; cases hn
            | cons j rest =>
              have hmem := mem_unH.1 (show j ∈ unH ops listed m by rw [hu]; exact List.mem_cons_self ..)
              have hjn : j < ops.size := by omega
              rcases hap i o ho j ops[j] (by omega) (Array.getElem?_eq_getElem hjn) with h2 | ⟨h2, _⟩
              · have := waits_listed h2 hall
                rw [hgd j hjn hmem.2] at this; cases this
              · omega
        obtain ⟨pre, post, he, hpre, hset⟩ := unH_split (ops := ops) (mem_unH.2 ⟨him, h0⟩)
        have hsel : ∀ (j : Nat) (p : Oper), ops[j]? = some p → ∀ cs b, p.op ≠ .select cs b := fun j p hp cs b => Region.noSelect_spec hns j p cs b hp
        rw [he, opsAt_append, opsAt_cons _ ho] at h
        have h2 := wpInv_take (hsel i o ho) (opsAt ops pre) (fun p hp => by
          obtain ⟨j, hj, hjp⟩ := List.mem_filterMap.1 hp
          have hjp' : ops[j]? = some p := hjp
          refine ⟨?_, hsel j p hjp'⟩
          rcases hap i o ho j p (hpre j hj) hjp' with h3 | ⟨_, h3⟩
          · exfalso
            have := waits_listed h3 hall
            have hju : j ∈ unH ops listed m := by rw [he]; exact List.mem_append_left _ hj
            rw [hgd j (Array.getElem?_eq_some_iff.1 hjp').1 (mem_unH.1 hju).2] at this; cases this
          · exact h3) a h
        rw [← opsAt_append, ← hset] at h2
        refine invOne_wp ho hc (fun a' w' hc' h' => ih fuel _ a' w' hc' ?_ (by simpa using hsz) (fun j h1 h2 => ?_) h' (by omega)) h2
        · rw [hset]; rw [he] at hn; simp at hn ⊢; omega
        · rw [getD_set_ne true (by omega)]; exact htl j h1 h2
end
/-- A whole variable of several cells, loaded. -/
theorem inv_load_row {P : Program} {C : World → Prop} {o : Oper} {a : Act} {w : World} (ty : TypeId) (x : Operand) (ho : o.op = .load ty x)
    (g : Nat) (hx : a.eval x = .pointer (some ⟨g, 0, none⟩)) (t : TypeId) (cs : Array Value) (fr : Nat × Nat) (d : TypeDesc) (hg : w.heap[g]? = some (.cells cs t fr))
    (hu : P.underlying ty = some d) (hd : (match d with | .struct _ | .array _ _ => true | _ => false) = true) (hi : (P.info? ty).map (·.size) = some cs.size) (hc : C w) :
    InvRun P C (.agg cs) ((execOp a.eval o).run P w) := by
  unfold execOp
  simp only [ho, hx, Instr.loadAt, Instr.sureAddr, Sem.run_bind, Sem.run_pure, Result.andThen_ok, run_loadVar_row w g t ty cs fr d hg hu hd hi]
  exact ⟨hc, rfl⟩
/-- THE LAW. 'm': where the tail begins (the region's length: there is none). -/
theorem wp_region_inv {P : Program} {id : Nat} {l : List Oper} {Q : Exit → Act → World → Prop} {a : Act} {w : World} (m : Nat) (C : World → Prop) (hm : P.follows .mixedOrders = true) (hB : regB l.toArray m = true)
    (hC : ∀ n, C { w with drawn := n }) (h : wpInv P l.toArray C (fun a => ∀ w, C w → wpList P l.toArray Q (l.drop m) a w) (l.take m) a) : (Code.region id l.toArray true).wp P Q a w := by
  have hml : m ≤ l.length := by simpa using (regB_spec hB).2.1
  refine wp_region_any hm (any_inv (T := fun a => ∀ w, C w → wpList P l.toArray Q (l.drop m) a w) hB (fun a w hc ht => ?_) _ _ _ _ _ (hC _) rfl (by simp) (fun j _ hj => ?_) ?_ ?_)
  · have he := wpOps_eq_wpList (P := P) (Q := Q) (ops := l.toArray) (l.drop m) m (fun j => by simp [List.getElem?_drop])
    have h1 := ht w hc
    rw [← he] at h1
    simpa using h1
  · have : j < l.length := by simpa using hj
    simp [this]
  · have hu : unH l.toArray (Array.replicate l.toArray.size false) m = List.range m := by
      unfold unH
      refine List.filter_eq_self.2 fun i hi => ?_
      have : i < l.length := by have := List.mem_range.1 hi; omega
      simp [this]
    rw [hu]
    have ht : opsAt l.toArray (List.range m) = l.take m := by
      clear h hu hB hC
      unfold opsAt
      induction m with
      | zero => simp
      | succ k ih =>
        rw [List.range_succ, List.filterMap_append, ih (by omega), List.take_succ_eq_append_getElem (by omega)]
        simp [show k < l.length by omega]
    rw [ht]; exact h
  · have : (unH l.toArray (Array.replicate l.toArray.size false) m).length ≤ m := by
      unfold unH; exact Nat.le_trans (List.length_filter_le _ _) (by simp)
    simp at *; omega
end Go.K
/-
  append onto an owned slice of any slice, at a step of a region that draws its order; the same text for every seat (no program in it).
-/
namespace Go.K
open Go.RowKit
set_option linter.unusedVariables false
theorem step_append_sl {P : Program} {w : World} {ops : Array Oper} {o : Oper} {a : Act} {K : Act → World → Prop} {Q : Exit → Act → World → Prop} {E : Prop} (hgd : o.guard = none) (s x : Operand) (t : TypeId)
    (ho : o.op = .call { callee := .builtin .append, args := #[s, x], argTypes := #[t, t] })
    (base : Nat) (e : TypeId) (z : Value) (size bytes : Nat) (ht : P.underlying t = some (.slice e)) (hinfo : (P.info? e).map (fun i => (i.zero, i.size, i.bytes)) = some (some z, size, bytes))
    (hzs : z.cells.size = size) (hsz : 0 < size)
    (v : Value) (n : Nat) (xs : List Value) (hs : a.eval s = v) (hown : w.ownsRow base e size v n xs)
    (ad : Option Addr) (m c : Nat) (news : List Value) (hx : a.eval x = .slice ad m c) (hc0 : ad = none → m = 0 ∧ c = 0) (hl : news.length = m * size) (hsl : Sl w ad news) (h1 : ∀ u ∈ news, u.oneCell' = true)
    (h63 : n + m ≤ maxLen) (hbytes : (n + m) * bytes ≤ 140737488355328) (hbase : base ≤ w.heap.size)
    (h : ∀ v' w', w'.ownsRow base e size v' (n + m) (xs ++ news) → w.grownBy w' v.ownBlock → K (a.put o.dst v') w') :
    if Region.wanted o (yielded ops a.tmps) = true then Oper.wp P o a w K Q else E := by
  have hw : Region.wanted o (yielded ops a.tmps) = true := by simp [Region.wanted, hgd]
  rw [if_pos hw]
  obtain ⟨i, hi, hz, hsize, hby⟩ := info_parts hinfo
  cases ad with
  | none =>
    obtain ⟨rfl, rfl⟩ := hc0 rfl
    have hn := hsl.none
    subst hn
    have hrun := run_append_owned_none (P := P) (w := w) base t o.type e i size ht hi v n xs hown
    unfold Oper.wp
    simp [execOp, ho, resolve, invoke, builtin, hs, hx, hrun, Result.andThen]
    exact h v w (by simpa using hown) ⟨rfl, rfl, rfl, Nat.le_refl _, fun _ _ _ => rfl⟩
  | some ad =>
    exact wp_append_own w s x t ho base e i z size bytes ht hi hz hsize hby hzs hsz v n xs hs hown ad m c news hx hl hsl.cells h1 h63 hbytes hbase (fun v' w' h2 h3 _ => h v' w' h2 h3)
/-- The same, with where the new row lies. -/
theorem step_append_sl_at {P : Program} {w : World} {ops : Array Oper} {o : Oper} {a : Act} {K : Act → World → Prop} {Q : Exit → Act → World → Prop} {E : Prop} (hgd : o.guard = none) (s x : Operand) (t : TypeId)
    (ho : o.op = .call { callee := .builtin .append, args := #[s, x], argTypes := #[t, t] })
    (base : Nat) (e : TypeId) (z : Value) (size bytes : Nat) (ht : P.underlying t = some (.slice e)) (hinfo : (P.info? e).map (fun i => (i.zero, i.size, i.bytes)) = some (some z, size, bytes))
    (hzs : z.cells.size = size) (hsz : 0 < size)
    (v : Value) (n : Nat) (xs : List Value) (hs : a.eval s = v) (hown : w.ownsRow base e size v n xs)
    (ad : Option Addr) (m c : Nat) (news : List Value) (hx : a.eval x = .slice ad m c) (hc0 : ad = none → m = 0 ∧ c = 0) (hl : news.length = m * size) (hsl : Sl w ad news) (h1 : ∀ u ∈ news, u.oneCell' = true)
    (h63 : n + m ≤ maxLen) (hbytes : (n + m) * bytes ≤ 140737488355328) (hbase : base ≤ w.heap.size)
    (h : ∀ v' w', w'.ownsRow base e size v' (n + m) (xs ++ news) → w.grownBy w' v.ownBlock → (v'.ownBlock = v.ownBlock ∨ v'.ownBlock = some w.heap.size) → K (a.put o.dst v') w') :
    if Region.wanted o (yielded ops a.tmps) = true then Oper.wp P o a w K Q else E := by
  have hw : Region.wanted o (yielded ops a.tmps) = true := by simp [Region.wanted, hgd]
  rw [if_pos hw]
  obtain ⟨i, hi, hz, hsize, hby⟩ := info_parts hinfo
  cases ad with
  | none =>
    obtain ⟨rfl, rfl⟩ := hc0 rfl
    have hn := hsl.none
    subst hn
    have hrun := run_append_owned_none (P := P) (w := w) base t o.type e i size ht hi v n xs hown
    unfold Oper.wp
    simp [execOp, ho, resolve, invoke, builtin, hs, hx, hrun, Result.andThen]
    exact h v w (by simpa using hown) ⟨rfl, rfl, rfl, Nat.le_refl _, fun _ _ _ => rfl⟩ (.inl rfl)
  | some ad =>
    obtain ⟨v', w', hr, h2, h3, _, h5⟩ := run_append_own_at (P := P) w base t o.type e i z size bytes ht hi hz hsize hby hzs hsz v n xs hown ad m c news hl hsl.cells h1 h63 hbytes hbase
    unfold Oper.wp execOp
    simp only [ho, resolve, invoke, builtin, Sem.run_bind, Sem.run_pure, Result.andThen_ok, List.map_toArray, List.map_cons, List.map_nil, hs, hx, hr]
    exact h v' w' h2 h3 h5
/-- An owned row as a slice. -/
theorem owns_slice {w : World} {base : Nat} {e : TypeId} {size n : Nat} {v : Value} {xs : List Value} (h : w.ownsRow base e size v n xs) :
    ∃ ad cap, v = .slice ad n cap ∧ (ad = none → n = 0 ∧ cap = 0) ∧ Sl w ad xs ∧ n ≤ cap := by
  rcases Nat.eq_zero_or_pos n with h0 | h0
  · subst h0
    have hx : xs = [] := List.eq_nil_of_length_eq_zero (by have := h.1; omega)
    subst hx
    rcases h.2 with ⟨rfl, _⟩ | ⟨g, cap, cur, rfl, _⟩
    · exact ⟨none, 0, rfl, fun _ => ⟨rfl, rfl⟩, Sl.nil _ _, Nat.le_refl _⟩
    · exact ⟨some ⟨g, 0, none⟩, cap, rfl, (fun h => by cases h), Sl.nil _ _, Nat.zero_le _⟩
  · obtain ⟨g, cap, cur, rfl, _, _, hle, _⟩ := owns_cases h h0
    exact ⟨_, cap, rfl, (fun h => by cases h), sl_of_owns h, hle⟩
theorem owns_base {w : World} {b b' : Nat} {e : TypeId} {size n : Nat} {v : Value} {xs : List Value} (h : w.ownsRow b e size v n xs) (hb : b' ≤ b) : w.ownsRow b' e size v n xs := by
  refine ⟨h.1, ?_⟩
  rcases h.2 with h2 | ⟨g, cap, cur, hv, hg, h3⟩
  · exact .inl h2
  · exact .inr ⟨g, cap, cur, hv, by omega, h3⟩
end Go.K
/-
  Stores into a block known by its row, in a world of which rows alone are known; the same text for every seat (no program in it).
-/
namespace Go.K
open Go.RowKit
set_option linter.unusedVariables false
set_option linter.unusedSimpArgs false
/-- A row in its place, the others as they were. -/
structure Put (w : World) (g : Nat) (o : Obj) (W : World) : Prop where
  at' : W.heap[g]? = some o
  size : W.heap.size = w.heap.size
  grown : w.grownBy W (some g)
theorem put_setRow {w : World} {g : Nat} {cur cells : Array Value} {t : TypeId} {fr : Nat × Nat} (hr : w.heap[g]? = some (.cells cur t fr)) : Put w g (.cells cells t fr) (w.setRow g cells) :=
  ⟨setRow_heap _ _ _ _ _ _ hr, by simp, ⟨rfl, rfl, rfl, by simp, fun k _ hne => setRow_other _ _ _ _ (fun e => hne (by rw [e]))⟩⟩
theorem Put.row {w W : World} {g : Nat} {o : Obj} (h : Put w g o W) {n : Nat} {p : Obj} (hr : w.heap[n]? = some p) (hne : n ≠ g) : W.heap[n]? = some p :=
  (h.grown.block n (lt_row hr) (fun e => hne (by injection e))).trans hr
theorem Put.below {w W a : World} {g B : Nat} {o : Obj} (h : Put w g o W) (hb : Below B a w) (hB : B ≤ w.heap.size) (hg : B ≤ g) : Below B a W := below_grown hb h.grown hB hg
theorem run_storeAt_seg {P : Program} {w : World} (ty : TypeId) (g o : Nat) (cur new : Array Value) (v : Value) (t : TypeId) (hr : w.heap[g]? = some (.cells cur t (0, 0))) (hs : o + v.cells.size ≤ cur.size)
    (hi : (P.info? ty).map (·.size) = some v.cells.size) (h1 : v.cells.all (·.oneCell') = true)
    (hn : (cur.toList.take o ++ v.cells.toList ++ cur.toList.drop (o + v.cells.size)).toArray = new) :
    (Instr.storeAt ty (.pointer (some ⟨g, o, none⟩)) v).run P w = .ok () (w.setRow g new) := by
  have h := run_storeCells_at (P := P) g o t v.cells.toList 0 cur w hr (by simpa using hs) (fun v hv => (Array.all_eq_true_iff_forall_mem.1 h1) v (by simpa using hv))
  simp only [Nat.add_zero, Array.length_toList] at h
  rw [hn] at h
  cases hq : P.info? ty with
  | none => simp [hq] at hi
  | some i =>
    have hs : v.cells.size = i.size := by simp [hq] at hi; omega
    simp [Instr.storeAt, Instr.sureAddr, storeVar, sizeOf, typeInfo, hq, hs, h]
theorem wpList_store_seg {P : Program} {ops : Array Oper} {rest : List Oper} {op : Oper} {a : Act} {w : World} {Q : Exit → Act → World → Prop} (hgd : op.guard = none) (ty : TypeId) (x y : Operand) (ho : op.op = .store ty x y) (hd : op.dst = none)
    (g o : Nat) (cur new : Array Value) (v : Value) (t : TypeId) (hx : a.eval x = .pointer (some ⟨g, o, none⟩)) (hy : a.eval y = v)
    (hr : w.heap[g]? = some (.cells cur t (0, 0))) (hs : o + v.cells.size ≤ cur.size)
    (hi : (P.info? ty).map (·.size) = some v.cells.size) (h1 : v.cells.all (·.oneCell') = true)
    (hn : (cur.toList.take o ++ v.cells.toList ++ cur.toList.drop (o + v.cells.size)).toArray = new)
    (h : ∀ W, Put w g (.cells new t) W → wpList P ops Q rest a W) : wpList P ops Q (op :: rest) a w :=
  wpList_plain hgd fun _ hK => by
    have hrun := run_storeAt_seg (P := P) ty g o cur new v t hr hs hi h1 hn
    unfold Oper.wp execOp
    simp only [ho, hx, hy, Sem.run_bind, hrun, Result.andThen_ok]
    refine hK _ _ ?_
    rw [hd]
    exact h _ (put_setRow hr)
/-- The store as a plain region writes it, all of it told by the caller. -/
theorem wpList_store_lit {P : Program} {ops : Array Oper} {rest : List Oper} {a : Act} {w : World} {Q : Exit → Act → World → Prop} {x y : Operand} {tt : TypeId} {pos : String} {af : Array Edge} (ty : TypeId)
    (g o : Nat) {cur : Array Value} {t : TypeId} (new : Array Value) (v : Value) (hr : w.heap[g]? = some (.cells cur t (0, 0))) (hi : (P.info? ty).map (·.size) = some v.cells.size) (hs : o + v.cells.size ≤ cur.size)
    (h1 : v.cells.toList.all (·.oneCell') = true)
    (hn : (cur.toList.take o ++ v.cells.toList ++ cur.toList.drop (o + v.cells.size)).toArray = new)
    (hx : a.eval x = .pointer (some ⟨g, o, none⟩)) (hy : a.eval y = v)
    (h : ∀ W, Put w g (.cells new t) W → wpList P ops Q rest a W) : wpList P ops Q ({ dst := none, op := .store ty x y, type := tt, pos := pos, after := af, guard := none } :: rest) a w :=
  wpList_store_seg rfl ty x y rfl rfl g o cur new v t hx hy hr hs hi (by simpa using h1) hn h
/-- The load of a whole struct out of a row. -/
theorem wpList_load_lit {P : Program} {ops : Array Oper} {rest : List Oper} {a : Act} {w : World} {Q : Exit → Act → World → Prop} {x : Operand} {d : Option Tmp} {tt : TypeId} {pos : String} {af : Array Edge} (ty : TypeId)
    (g : Nat) {cs : Array Value} {t : TypeId} {fr : Nat × Nat} {de : TypeDesc} (hr : w.heap[g]? = some (.cells cs t fr)) (hu : P.underlying ty = some de) (hd : (match de with | .struct _ | .array _ _ => true | _ => false) = true)
    (hi : (P.info? ty).map (·.size) = some cs.size) (hx : a.eval x = .pointer (some ⟨g, 0, none⟩))
    (h : wpList P ops Q rest (a.put d (.agg cs)) w) : wpList P ops Q ({ dst := d, op := .load ty x, type := tt, pos := pos, after := af, guard := none } :: rest) a w :=
  wpList_load_row rfl ty x rfl g hx t cs fr de hr hu hd hi h
/-- A row's cells, one by one. -/
theorem cells3 {w : World} {g : Nat} {a b c : Value} {t : TypeId} {fr : Nat × Nat} (h : w.heap[g]? = some (.cells #[a, b, c] t fr)) : w.cell? ⟨g, 0, none⟩ = some a ∧ w.cell? ⟨g, 1, none⟩ = some b ∧ w.cell? ⟨g, 2, none⟩ = some c := by
  refine ⟨?_, ?_, ?_⟩ <;> (rw [cell_of_row _ _ _ _ _ _ h]; rfl)
theorem cells5 {w : World} {g : Nat} {a b c d e : Value} {t : TypeId} {fr : Nat × Nat} (h : w.heap[g]? = some (.cells #[a, b, c, d, e] t fr)) :
    w.cell? ⟨g, 0, none⟩ = some a ∧ w.cell? ⟨g, 1, none⟩ = some b ∧ w.cell? ⟨g, 2, none⟩ = some c ∧ w.cell? ⟨g, 3, none⟩ = some d ∧ w.cell? ⟨g, 4, none⟩ = some e := by
  refine ⟨?_, ?_, ?_, ?_, ?_⟩ <;> (rw [cell_of_row _ _ _ _ _ _ h]; rfl)
theorem cells11 {w : World} {g : Nat} {a b c d e f i j k l m : Value} {t : TypeId} {fr : Nat × Nat} (h : w.heap[g]? = some (.cells #[a, b, c, d, e, f, i, j, k, l, m] t fr)) :
    w.cell? ⟨g, 0, none⟩ = some a ∧ w.cell? ⟨g, 1, none⟩ = some b ∧ w.cell? ⟨g, 2, none⟩ = some c ∧ w.cell? ⟨g, 3, none⟩ = some d ∧ w.cell? ⟨g, 4, none⟩ = some e ∧ w.cell? ⟨g, 5, none⟩ = some f ∧
    w.cell? ⟨g, 6, none⟩ = some i ∧ w.cell? ⟨g, 7, none⟩ = some j ∧ w.cell? ⟨g, 8, none⟩ = some k ∧ w.cell? ⟨g, 9, none⟩ = some l ∧ w.cell? ⟨g, 10, none⟩ = some m := by
  refine ⟨?_, ?_, ?_, ?_, ?_, ?_, ?_, ?_, ?_, ?_, ?_⟩ <;> (rw [cell_of_row _ _ _ _ _ _ h]; rfl)
/-- A row that is not the one that grew. -/
theorem row_past {W W' : World} {n : Nat} {o : Obj} (h : W.heap[n]? = some o) {row : Option Nat} (hg : W.grownBy W' row) (hne : some n ≠ row) : W'.heap[n]? = some o :=
  (hg.block n (lt_row h) hne).trans h
end Go.K
/-
  A world that turned in some blocks alone: what a call that writes over what it was handed leaves; the same text for every seat (no program in it).
-/
namespace Go.K
open Go.RowKit
set_option linter.unusedVariables false
structure Only (S : Nat → Prop) (w w' : World) : Prop where
  os : w'.os = w.os
  tape : w'.tape = w.tape
  output : w'.output = w.output
  size : w.heap.size ≤ w'.heap.size
  block : ∀ k, k < w.heap.size → ¬ S k → w'.heap[k]? = w.heap[k]?
theorem Only.refl (S : Nat → Prop) (w : World) : Only S w w := ⟨rfl, rfl, rfl, Nat.le_refl _, fun _ _ _ => rfl⟩
theorem Only.trans {S T : Nat → Prop} {a b c : World} (h : Only S a b) (k : Only T b c) (hT : ∀ n, T n → S n ∨ a.heap.size ≤ n) : Only S a c :=
  ⟨k.os.trans h.os, k.tape.trans h.tape, k.output.trans h.output, Nat.le_trans h.size k.size, fun i hi hn =>
    (k.block i (Nat.lt_of_lt_of_le hi h.size) (fun ht => (hT i ht).elim hn (fun h1 => absurd hi (Nat.not_lt.2 h1)))).trans (h.block i hi hn)⟩
theorem Only.of_below {S : Nat → Prop} {a b : World} (h : Below a.heap.size a b) : Only S a b := ⟨h.os, h.tape, h.output, h.size, fun k hk _ => h.block k hk⟩
theorem Only.of_grown {S : Nat → Prop} {a b : World} {row : Option Nat} (h : a.grownBy b row) (hS : ∀ k, row = some k → S k) : Only S a b :=
  ⟨h.os, h.tape, h.output, h.size, fun k hk hn => h.block k hk (fun e => hn (hS k e.symm))⟩
theorem Only.mono {S T : Nat → Prop} {a b : World} (h : Only S a b) (hT : ∀ k, S k → T k) : Only T a b := ⟨h.os, h.tape, h.output, h.size, fun k hk hn => h.block k hk (fun hs => hn (hT k hs))⟩
theorem Only.below {S : Nat → Prop} {B : Nat} {a b : World} (h : Only S a b) (hB : B ≤ a.heap.size) (hS : ∀ k, S k → B ≤ k) : Below B a b :=
  ⟨h.os, h.tape, h.output, h.size, fun k hk => h.block k (by omega) (fun hs => by have := hS k hs; omega)⟩
theorem Only.row {S : Nat → Prop} {a b : World} (h : Only S a b) {n : Nat} {o : Obj} (hr : a.heap[n]? = some o) (hn : ¬ S n) : b.heap[n]? = some o := (h.block n (lt_row hr) hn).trans hr
theorem Only.cell {S : Nat → Prop} {a b : World} (h : Only S a b) {x : Addr} {v : Value} (hr : a.cell? x = some v) (hn : ¬ S x.block) : b.cell? x = some v := by
  rw [World.cell?_of_block (h.block x.block (World.block_lt_of_cell? a _ hr) hn)]; exact hr
theorem Only.sl {S : Nat → Prop} {a b : World} (h : Only S a b) {x : Option Addr} {vs : List Value} (hs : Sl a x vs) (hn : ∀ y, x = some y → vs ≠ [] → ¬ S y.block) : Sl b x vs := by
  intro hne
  obtain ⟨g, off, rfl, hc⟩ := hs hne
  refine ⟨g, off, rfl, fun i hi => ?_⟩
  have h1 := hc i hi
  rw [List.getElem?_eq_getElem hi] at h1 ⊢
  exact h.cell h1 (hn ⟨g, off, none⟩ rfl hne)
theorem Only.owns {S : Nat → Prop} {a b : World} (h : Only S a b) {base : Nat} {e : TypeId} {size n : Nat} {v : Value} {xs : List Value} (ho : a.ownsRow base e size v n xs) (hn : ∀ k, v.ownBlock = some k → ¬ S k) : b.ownsRow base e size v n xs := by
  refine ⟨ho.1, ?_⟩
  rcases ho.2 with h2 | ⟨g, cap, cur, hv, hg, hr, h3⟩
  · exact .inl h2
  · exact .inr ⟨g, cap, cur, hv, hg, h.row hr (hn g (by rw [hv]; rfl)), h3⟩
/-- A piece laid into a row: its size, what lies behind it. -/
def segA (l : List Value) (o : Nat) (vs : List Value) : Array Value := (l.take o ++ vs ++ l.drop (o + vs.length)).toArray
theorem segA_size (l : List Value) (o : Nat) (vs : List Value) (h : o + vs.length ≤ l.length) : (segA l o vs).size = l.length := by simp [segA]; omega
theorem segA_after (l : List Value) (o : Nat) (vs : List Value) (h : o + vs.length ≤ l.length) (q : Nat) (hq : o + vs.length ≤ q) : (segA l o vs)[q]? = l[q]? := by
  simp only [segA, List.getElem?_toArray]
  rw [List.getElem?_append_right (by simp; omega)]
  simp only [List.length_append, List.length_take, List.getElem?_drop]
  congr 1; omega
theorem segA_before (l : List Value) (o : Nat) (vs : List Value) (h : o + vs.length ≤ l.length) (q : Nat) (hq : q < o) : (segA l o vs)[q]? = l[q]? := by
  simp only [segA, List.getElem?_toArray]
  rw [List.append_assoc, List.getElem?_append_left (by simp; omega), List.getElem?_take, if_pos hq]
theorem segA_in (l : List Value) (o : Nat) (vs : List Value) (h : o + vs.length ≤ l.length) (q : Nat) (hq : q < vs.length) : (segA l o vs)[o + q]? = vs[q]? := by
  simp only [segA, List.getElem?_toArray]
  rw [List.append_assoc, List.getElem?_append_right (by simp; omega), List.getElem?_append_left (by simp; omega)]
  congr 1; simp; omega
theorem rows_ne {W : World} {g g' : Nat} {cur cur' : Array Value} {t t' : TypeId} {fr fr' : Nat × Nat} (h : W.heap[g]? = some (.cells cur t fr)) (h' : W.heap[g']? = some (.cells cur' t' fr')) (hne : t ≠ t') : g ≠ g' := by
  intro e
  subst e
  rw [h] at h'
  injection h' with h1
  injection h1 with _ h2
  exact hne h2
theorem Put.only {w W : World} {g : Nat} {o : Obj} (h : Put w g o W) : Only (· = g) w W := Only.of_grown h.grown (fun k hk => by injection hk with e; exact e.symm)
/-- append onto an owned slice in a plain region, with where the new row lies. -/
theorem wpList_append_sl_at {P : Program} {w : World} {ops : Array Oper} {rest : List Oper} {o : Oper} {a : Act} {Q : Exit → Act → World → Prop} (hgd : o.guard = none) (s x : Operand) (t : TypeId)
    (ho : o.op = .call { callee := .builtin .append, args := #[s, x], argTypes := #[t, t] })
    (base : Nat) (e : TypeId) (z : Value) (size bytes : Nat) (ht : P.underlying t = some (.slice e)) (hinfo : (P.info? e).map (fun i => (i.zero, i.size, i.bytes)) = some (some z, size, bytes))
    (hzs : z.cells.size = size) (hsz : 0 < size)
    (v : Value) (n : Nat) (xs : List Value) (hs : a.eval s = v) (hown : w.ownsRow base e size v n xs)
    (ad : Option Addr) (m c : Nat) (news : List Value) (hx : a.eval x = .slice ad m c) (hc0 : ad = none → m = 0 ∧ c = 0) (hl : news.length = m * size) (hsl : Sl w ad news) (h1 : ∀ u ∈ news, u.oneCell' = true)
    (h63 : n + m ≤ maxLen) (hbytes : (n + m) * bytes ≤ 140737488355328) (hbase : base ≤ w.heap.size)
    (h : ∀ v' w', w'.ownsRow base e size v' (n + m) (xs ++ news) → w.grownBy w' v.ownBlock → (v'.ownBlock = v.ownBlock ∨ v'.ownBlock = some w.heap.size) → wpList P ops Q rest (a.put o.dst v') w') : wpList P ops Q (o :: rest) a w :=
  wpList_plain hgd fun _ hK => by
    obtain ⟨i, hi, hz, hsize, hby⟩ := info_parts hinfo
    cases ad with
    | none =>
      obtain ⟨rfl, rfl⟩ := hc0 rfl
      have hn := hsl.none
      subst hn
      have hrun := run_append_owned_none (P := P) (w := w) base t o.type e i size ht hi v n xs hown
      unfold Oper.wp
      simp [execOp, ho, resolve, invoke, builtin, hs, hx, hrun, Result.andThen]
      exact hK _ _ (h v w (by simpa using hown) ⟨rfl, rfl, rfl, Nat.le_refl _, fun _ _ _ => rfl⟩ (.inl rfl))
    | some ad =>
      obtain ⟨v', w', hr, h2, h3, _, h5⟩ := run_append_own_at (P := P) w base t o.type e i z size bytes ht hi hz hsize hby hzs hsz v n xs hown ad m c news hl hsl.cells h1 h63 hbytes hbase
      unfold Oper.wp execOp
      simp only [ho, resolve, invoke, builtin, Sem.run_bind, Sem.run_pure, Result.andThen_ok, List.map_toArray, List.map_cons, List.map_nil, hs, hx, hr]
      exact hK _ _ (h v' w' h2 h3 h5)
/-- Results of which the first is a struct that lies in memory. -/
theorem results_row_tmp {P : Program} {fn : Func} {p u : Tmp} {ty : TypeId} (h : fn.results = #[.cell p ty, .tmp u]) (tmps : Array Value) (w : World) (g : Nat) (t : TypeId) (cs : Array Value) (fr : Nat × Nat) (d : TypeDesc)
    (hp : tmps.getD p undef = .pointer (some ⟨g, 0, none⟩)) (hg : w.heap[g]? = some (.cells cs t fr))
    (hu : P.underlying ty = some d) (hd : (match d with | .struct _ | .array _ _ => true | _ => false) = true) (hi : (P.info? ty).map (·.size) = some cs.size) :
    (results fn tmps).run P w = .ok (.tuple #[.agg cs, tmps.getD u undef]) w := by
  have hp' : tmps[p]?.getD undef = .pointer (some ⟨g, 0, none⟩) := by simpa using hp
  simp [results, h, hp', asAddr, run_loadVar_row w g t ty cs fr d hg hu hd hi]
theorem results_row_tmp3 {P : Program} {fn : Func} {p u v x : Tmp} {ty : TypeId} (h : fn.results = #[.cell p ty, .tmp u, .tmp v, .tmp x]) (tmps : Array Value) (w : World) (g : Nat) (t : TypeId) (cs : Array Value) (fr : Nat × Nat) (d : TypeDesc)
    (hp : tmps.getD p undef = .pointer (some ⟨g, 0, none⟩)) (hg : w.heap[g]? = some (.cells cs t fr))
    (hu : P.underlying ty = some d) (hd : (match d with | .struct _ | .array _ _ => true | _ => false) = true) (hi : (P.info? ty).map (·.size) = some cs.size) :
    (results fn tmps).run P w = .ok (.tuple #[.agg cs, tmps.getD u undef, tmps.getD v undef, tmps.getD x undef]) w := by
  have hp' : tmps[p]?.getD undef = .pointer (some ⟨g, 0, none⟩) := by simpa using hp
  simp [results, h, hp', asAddr, run_loadVar_row w g t ty cs fr d hg hu hd hi]
/-- The store at a step of a region that draws its order. -/
theorem step_store_lit {P : Program} {ops : Array Oper} {a : Act} {w : World} {K : Act → World → Prop} {Q : Exit → Act → World → Prop} {E : Prop} {x y : Operand} {tt : TypeId} {pos : String} {af : Array Edge} (ty : TypeId)
    (g o : Nat) {cur : Array Value} {t : TypeId} (new : Array Value) (v : Value) (hr : w.heap[g]? = some (.cells cur t (0, 0))) (hi : (P.info? ty).map (·.size) = some v.cells.size) (hs : o + v.cells.size ≤ cur.size)
    (h1 : v.cells.toList.all (·.oneCell') = true)
    (hn : (cur.toList.take o ++ v.cells.toList ++ cur.toList.drop (o + v.cells.size)).toArray = new)
    (hx : a.eval x = .pointer (some ⟨g, o, none⟩)) (hy : a.eval y = v)
    (h : ∀ W, Put w g (.cells new t) W → K a W) :
    if Region.wanted { dst := none, op := .store ty x y, type := tt, pos := pos, after := af, guard := none } (yielded ops a.tmps) = true then Oper.wp P { dst := none, op := .store ty x y, type := tt, pos := pos, after := af, guard := none } a w K Q else E := by
  have hw : Region.wanted { dst := none, op := .store ty x y, type := tt, pos := pos, after := af, guard := none } (yielded ops a.tmps) = true := by simp [Region.wanted]
  rw [if_pos hw]
  have hrun := run_storeAt_seg (P := P) ty g o cur new v t hr hs hi (by simpa using h1) hn
  unfold Oper.wp execOp
  simp only [hx, hy, Sem.run_bind, hrun, Result.andThen_ok]
  exact h _ (put_setRow hr)
theorem isSome_set {w : World} {b o : Nat} {v : Value} {x : Addr} (h : (w.cell? x).isSome = true) : ((w.setCell ⟨b, o, none⟩ v).cell? x).isSome = true := World.isSome_setCells b [v] o w x h
theorem isSome_set_drew {w : World} {b o : Nat} {v : Value} {x : Addr} (h : (w.cell? x).isSome = true) : ((w.setCell ⟨b, o, none⟩ v).drew.cell? x).isSome = true := World.isSome_setCells b [v] o w x h
end Go.K
/-
  append onto a slice without room (its capacity is its length): always a new row; the same text for every seat (no program in it).
-/
namespace Go.K
open Go.RowKit
set_option linter.unusedVariables false
theorem run_append_full {P : Program} {w : World} (t ty e : TypeId) (z : Value) (size bytes : Nat) (ht : P.underlying t = some (.slice e)) (hinfo : (P.info? e).map (fun i => (i.zero, i.size, i.bytes)) = some (some z, size, bytes))
    (hzs : z.cells.size = size) (ad : Option Addr) (n : Nat) (olds : List Value) (hol : olds.length = n * size) (hsl : Sl w ad olds) (hn0 : ad = none → n = 0)
    (ax : Addr) (m c : Nat) (news : List Value) (hm : 0 < m) (hl : news.length = m * size) (hslx : Sl w (some ax) news) (h1 : ∀ u ∈ news, u.oneCell' = true)
    (h63 : n + m ≤ maxLen) (hbytes : (n + m) * bytes ≤ 140737488355328) :
    ∃ v' w', (Builtin.append_ #[t, t] ty #[.slice ad n n, .slice (some ax) m c]).run P w = .ok v' w' ∧ w'.ownsRow w.heap.size e size v' (n + m) (olds ++ news) ∧ Below w.heap.size w w' := by
  obtain ⟨i, hi, hz, hsize, hby⟩ := info_parts hinfo
  subst hsize hby
  have hold : (Builtin.firstCells i.size n (.slice ad n n)).run P w.drew = .ok olds.toArray w.drew := by
    cases ad with
    | none =>
      have h0 := hn0 rfl
      subst h0
      have : olds = [] := List.eq_nil_of_length_eq_zero (by simpa using hol)
      subst this
      exact run_firstCells_none w.drew i.size 0 0 0
    | some b => exact run_firstCells_some w.drew i.size n b n n olds hol (fun j u hu => hsl.cells j u hu)
  have hs : Src P i.size t (.slice (some ax) m c) m news w := Src.ofSlice w ht ax m c news hl hslx.cells h1
  have hg : n < n + m := by omega
  have hrun := run_append_grow_src (P := P) w t t ty e i z ht hi hz ad n n olds hold _ m news hs hg (by simp only [maxLen] at h63; omega) (growslice_fits hg hbytes)
  have hge := grownCap_ge w (n + m) n e
  have hcm := grownCap_le_maxLen w (n + m) n e h63
  have hL : (olds ++ news).length = (n + m) * i.size := by rw [List.length_append, hol, hl, Nat.add_mul]
  refine ⟨_, _, hrun, ⟨hL, .inr ⟨w.heap.size, _, _, rfl, Nat.le_refl _, heap_alloc_new w.drew _, by omega, hcm, ?_, ?_⟩⟩, ⟨rfl, rfl, rfl, by simp, fun k hk => Below.heap_alloc w.drew _ k hk⟩⟩
  · rw [Array.size_append, List.size_toArray, hL, size_zeroCells, hzs, ← Nat.add_mul]
    congr 1
    omega
  · rw [Array.toList_append, List.take_append_of_le_length (by rw [← hL]; simp)]
    exact List.take_of_length_le (by rw [← hL]; simp)
theorem wpList_append_full {P : Program} {w : World} {ops : Array Oper} {rest : List Oper} {o : Oper} {a : Act} {Q : Exit → Act → World → Prop} (hgd : o.guard = none) (s x : Operand) (t : TypeId)
    (ho : o.op = .call { callee := .builtin .append, args := #[s, x], argTypes := #[t, t] })
    (e : TypeId) (z : Value) (size bytes : Nat) (ht : P.underlying t = some (.slice e)) (hinfo : (P.info? e).map (fun i => (i.zero, i.size, i.bytes)) = some (some z, size, bytes))
    (hzs : z.cells.size = size) (ad : Option Addr) (n : Nat) (olds : List Value) (hs : a.eval s = .slice ad n n) (hol : olds.length = n * size) (hsl : Sl w ad olds) (hn0 : ad = none → n = 0)
    (ax : Addr) (m c : Nat) (news : List Value) (hx : a.eval x = .slice (some ax) m c) (hm : 0 < m) (hl : news.length = m * size) (hslx : Sl w (some ax) news) (h1 : ∀ u ∈ news, u.oneCell' = true)
    (h63 : n + m ≤ maxLen) (hbytes : (n + m) * bytes ≤ 140737488355328)
    (h : ∀ v' w', w'.ownsRow w.heap.size e size v' (n + m) (olds ++ news) → Below w.heap.size w w' → wpList P ops Q rest (a.put o.dst v') w') : wpList P ops Q (o :: rest) a w :=
  wpList_plain hgd fun _ hK => by
    obtain ⟨v', w', hr, h2, h3⟩ := run_append_full (P := P) (w := w) t o.type e z size bytes ht hinfo hzs ad n olds hol hsl hn0 ax m c news hm hl hslx h1 h63 hbytes
    unfold Oper.wp execOp
    simp only [ho, resolve, invoke, builtin, Sem.run_bind, Sem.run_pure, Result.andThen_ok, List.map_toArray, List.map_cons, List.map_nil, hs, hx, hr]
    exact hK _ _ (h v' w' h2 h3)
end Go.K
/-
  A region that draws its order, without guards, walked once in the order of the text, in which a store may come ahead of others that don't mind: a class of worlds ahead of the store, one behind it; each operation yields one value in all worlds of either class
-/
namespace Go.K
set_option linter.unusedVariables false
set_option linter.unusedSimpArgs false

section
variable {P : Program} {ops : Array Oper} {F : Bool → World → Prop} {mk : Oper → Bool} {Q : Exit → Act → World → Prop}
/-- What one operation does from a frame, and what is asked behind it. -/
def flagOne (P : Program) (ops : Array Oper) (F : Bool → World → Prop) (mk : Oper → Bool) (o : Oper) (a : Act) (K : Act → Prop) : Prop :=
  Region.wanted o (yielded ops a.tmps) = true ∧ ∃ v, (∀ b w, F b w → InvRun P (F (b || mk o)) v ((execOp a.eval o).run P w)) ∧ K (a.put o.dst v)
/-- Operations, one behind the other, from a frame. -/
def wpFlag (P : Program) (ops : Array Oper) (F : Bool → World → Prop) (mk : Oper → Bool) (T : Act → Prop) : List Oper → Act → Prop
  | [], a => T a
  | o :: rest, a => flagOne P ops F mk o a (wpFlag P ops F mk T rest)
variable {T : Act → Prop}
theorem wpFlag_nil {a : Act} (h : T a) : wpFlag P ops F mk T [] a := h
theorem wpFlag_cons {o : Oper} {rest : List Oper} {a : Act} (v : Value) (hw : Region.wanted o (yielded ops a.tmps) = true) (h : ∀ b w, F b w → InvRun P (F (b || mk o)) v ((execOp a.eval o).run P w))
    (hk : wpFlag P ops F mk T rest (a.put o.dst v)) : wpFlag P ops F mk T (o :: rest) a := ⟨hw, v, h, hk⟩
theorem flagOne_mono {o : Oper} {a : Act} {K K' : Act → Prop} (h : ∀ a, K a → K' a) (hh : flagOne P ops F mk o a K) : flagOne P ops F mk o a K' := by
  obtain ⟨h1, v, h2, h3⟩ := hh
  exact ⟨h1, v, h2, h _ h3⟩
/-- Two operations that are apart change places. -/
theorem flagOne_swap {o p : Oper} (hap : o.apart ops p = true) (hso : ∀ cs b, o.op ≠ .select cs b) (hsp : ∀ cs b, p.op ≠ .select cs b) {a : Act} {K : Act → Prop}
    (h : flagOne P ops F mk p a (fun a' => flagOne P ops F mk o a' K)) : flagOne P ops F mk o a (fun a' => flagOne P ops F mk p a' K) := by
  obtain ⟨h1, h2, h3⟩ := Oper.apart_spec hap
  have keyO : ∀ u, execOp (a.put p.dst u).eval o = execOp a.eval o := fun u => execOp_put o hso a p.dst u h3
  have keyP : ∀ u, execOp (a.put o.dst u).eval p = execOp a.eval p := fun u => execOp_put p hsp a o.dst u h1
  have wO : ∀ u, Region.wanted o (yielded ops (a.put p.dst u).tmps) = Region.wanted o (yielded ops a.tmps) := fun u => wanted_put o a p.dst u h3
  have wP : ∀ u, Region.wanted p (yielded ops (a.put o.dst u).tmps) = Region.wanted p (yielded ops a.tmps) := fun u => wanted_put p a o.dst u h1
  obtain ⟨hp, u, hu, hw, v, hv, hk⟩ := h
  rw [wO] at hw
  refine ⟨hw, v, fun b w hc => by have := hv b w hc; rwa [keyO] at this, by rw [wP]; exact hp, u, fun b w hc => by rw [keyP]; exact hu b w hc, ?_⟩
  rw [Act.put_comm a v u h2]; exact hk
theorem wpFlag_take {o : Oper} (hso : ∀ cs b, o.op ≠ .select cs b) {post : List Oper} : ∀ (pre : List Oper), (∀ p ∈ pre, o.apart ops p = true ∧ ∀ cs b, p.op ≠ .select cs b) →
    ∀ a, wpFlag P ops F mk T (pre ++ o :: post) a → flagOne P ops F mk o a (wpFlag P ops F mk T (pre ++ post))
  | [], _, _, h => h
  | p :: pre, hp, a, h => by
    have h' : flagOne P ops F mk p a (wpFlag P ops F mk T (pre ++ o :: post)) := h
    have h2 := flagOne_mono (K' := fun a' => flagOne P ops F mk o a' (wpFlag P ops F mk T (pre ++ post))) (fun a' h3 => wpFlag_take hso pre (fun q hq => hp q (List.mem_cons_of_mem _ hq)) a' h3) h'
    exact flagOne_swap (hp p (List.mem_cons_self ..)).1 hso (hp p (List.mem_cons_self ..)).2 h2
theorem flagOne_wp {i : Nat} {o : Oper} (ho : ops[i]? = some o) {a : Act} {w : World} {K : Act → Prop} {K' : Act → World → Prop} {b : Bool} (hw : F b w) (hk : ∀ a w, F (b || mk o) w → K a → K' a w) (h : flagOne P ops F mk o a K) : wpOp P ops Q i K' a w := by
  unfold wpOp
  rw [ho]
  dsimp only
  obtain ⟨h1, v, h2, h3⟩ := h
  rw [if_pos h1]
  left
  have h4 := h2 b w hw
  unfold Oper.wp
  generalize (execOp a.eval o).run P w = r at h4
  cases r with
  | ok n w' =>
    cases n <;> simp only [InvRun] at h4 <;> simp only [Oper.upon]
    case value u =>
      obtain ⟨hc, rfl⟩ := h4
      exact hk _ _ hc h3
    case skip =>
      obtain ⟨hc, rfl⟩ := h4
      exact hk _ _ hc h3
    case enter f args =>
      exact h4.mono fun e w'' ⟨he, hc⟩ => by subst he; exact hk _ _ hc h3
  | halt x w' => simp only [InvRun] at h4
variable {m : Nat}
theorem any_flag (c : Bool) (hB : regB ops m = true) (hT : ∀ a w, F c w → T a → wpOps P ops Q (List.range' m (ops.size - m)) a w) : ∀ (n fuel : Nat) (listed : Array Bool) (a : Act) (w : World) (b : Bool), F b w → (b || (opsAt ops (unH ops listed m)).any mk) = c → (unH ops listed m).length = n →
    listed.size = ops.size → (∀ j, m ≤ j → j < ops.size → listed.getD j true = false) → wpFlag P ops F mk T (opsAt ops (unH ops listed m)) a → n + (ops.size - m) ≤ fuel → wpAny P .any ops Q fuel listed a w := by
  obtain ⟨hns, hm, hdn, hap⟩ := regB_spec hB
  intro n
  induction n with
  | zero =>
    intro fuel listed a w b hc hbc hn hsz htl h hf
    have hnil : unH ops listed m = [] := List.eq_nil_of_length_eq_zero hn
    rw [hnil] at h hbc
    have hbc' : b = c := by simpa [opsAt] using hbc
    subst hbc'
    refine any_tail hB (ops.size - m) m fuel listed a w (Nat.le_refl _) (by omega) hsz (fun j hj => ?_) (hT a w hc h) (by omega)
    rcases Nat.lt_or_ge j m with h1 | h1
    · have : j ∉ unH ops listed m := by rw [hnil]; exact List.not_mem_nil
      rw [mem_unH] at this
      simp [h1] at this
      have hj' : j < listed.size := by omega
      simp [hj'] at this ⊢
      rw [this]; simp [h1]
    · rw [htl j h1 hj]; simp; omega
  | succ n ih =>
    intro fuel listed a w b hc hbc hn hsz htl h hf
    have hgd : ∀ j, j < ops.size → listed.getD j true = false → listed.getD j false = false := by
      intro j hj h1
      have hj' : j < listed.size := by omega
      simp [hj'] at h1 ⊢; exact h1
    have hgt : ∀ j, j < ops.size → listed.getD j false = false → listed.getD j true = false := by
      intro j hj h1
      have hj' : j < listed.size := by omega
      simp [hj'] at h1 ⊢; exact h1
    cases fuel with
    | zero => omega
    | succ fuel =>
      refine ⟨fun h0 => ?_, fun i hi => ?_⟩
      · exfalso
        cases hu : unH ops listed m with
        | nil => rw [hu] at hn; cases hn
        | cons i rest =>
          have hs := unH_sorted (ops := ops) listed m
          have hmem := mem_unH.1 (show i ∈ unH ops listed m by rw [hu]; exact List.mem_cons_self ..)
          have hin : i < ops.size := by omega
          have : i ∈ Region.ready .any ops listed := by
            refine mem_ready.2 ⟨hmem.2, ops[i], Array.getElem?_eq_getElem hin, fun e he hb => ?_⟩
            have hlt := hdn i _ (Array.getElem?_eq_getElem hin) e he hb
            cases hx : listed.getD e.on false
            · exfalso
              have hm2 : e.on ∈ unH ops listed m := mem_unH.2 ⟨by omega, hgt _ (by omega) hx⟩
              rw [hu] at hm2 hs
              rcases List.mem_cons.1 hm2 with h1 | h1
              · omega
              · have := (List.pairwise_cons.1 hs).1 _ h1; omega
            · rfl
          rw [h0] at this; cases this
      · obtain ⟨h0, o, ho, hall⟩ := mem_ready.1 hi
        have hin := (Array.getElem?_eq_some_iff.1 ho).1
        have him : i < m := by
          rcases Nat.lt_or_ge i m with h1 | h1
          · exact h1
          · exfalso
            cases hu : unH ops listed m with
            | nil => rw [hu] at hn; cases hn
            | cons j rest =>
              have hmem := mem_unH.1 (show j ∈ unH ops listed m by rw [hu]; exact List.mem_cons_self ..)
              have hjn : j < ops.size := by omega
              rcases hap i o ho j ops[j] (by omega) (Array.getElem?_eq_getElem hjn) with h2 | ⟨h2, _⟩
              · have := waits_listed h2 hall
                rw [hgd j hjn hmem.2] at this; cases this
              · omega
        obtain ⟨pre, post, he, hpre, hset⟩ := unH_split (ops := ops) (mem_unH.2 ⟨him, h0⟩)
        have hsel : ∀ (j : Nat) (p : Oper), ops[j]? = some p → ∀ cs b, p.op ≠ .select cs b := fun j p hp cs b => Region.noSelect_spec hns j p cs b hp
        rw [he, opsAt_append, opsAt_cons _ ho] at h hbc
        have h2 := wpFlag_take (hsel i o ho) (opsAt ops pre) (fun p hp => by
          obtain ⟨j, hj, hjp⟩ := List.mem_filterMap.1 hp
          have hjp' : ops[j]? = some p := hjp
          refine ⟨?_, hsel j p hjp'⟩
          rcases hap i o ho j p (hpre j hj) hjp' with h3 | ⟨_, h3⟩
          · exfalso
            have := waits_listed h3 hall
            have hju : j ∈ unH ops listed m := by rw [he]; exact List.mem_append_left _ hj
            rw [hgd j (Array.getElem?_eq_some_iff.1 hjp').1 (mem_unH.1 hju).2] at this; cases this
          · exact h3) a h
        rw [← opsAt_append, ← hset] at h2
        refine flagOne_wp ho hc (fun a' w' hc' h' => ih fuel _ a' w' (b || mk o) hc' ?_ ?_ (by simpa using hsz) (fun j h1 h2 => ?_) h' (by omega)) h2
        · rw [hset, opsAt_append, ← hbc]
          simp only [List.any_append, List.any_cons]
          cases b <;> cases mk o <;> simp
        · rw [hset]; rw [he] at hn; simp at hn ⊢; omega
        · rw [getD_set_ne true (by omega)]; exact htl j h1 h2
end
/-- THE LAW. 'm': where the tail begins; F false: the worlds ahead of the store, F true: behind it. -/
theorem wp_region_flag {P : Program} {id : Nat} {l : List Oper} {Q : Exit → Act → World → Prop} {a : Act} {w : World} (m : Nat) (F : Bool → World → Prop) (mk : Oper → Bool) (hm : P.follows .mixedOrders = true) (hB : regB l.toArray m = true)
    (hmk : (l.take m).any mk = true) (hC : ∀ n, F false { w with drawn := n }) (h : wpFlag P l.toArray F mk (fun a => ∀ w, F true w → wpList P l.toArray Q (l.drop m) a w) (l.take m) a) : (Code.region id l.toArray true).wp P Q a w := by
  have hml : m ≤ l.length := by simpa using (regB_spec hB).2.1
  have hu : unH l.toArray (Array.replicate l.toArray.size false) m = List.range m := by
    unfold unH
    refine List.filter_eq_self.2 fun i hi => ?_
    have : i < l.length := by have := List.mem_range.1 hi; omega
    simp [this]
  have hop : opsAt l.toArray (List.range m) = l.take m := by
    clear h hu hB hC hmk
    unfold opsAt
    induction m with
    | zero => simp
    | succ k ih =>
      rw [List.range_succ, List.filterMap_append, ih (by omega), List.take_succ_eq_append_getElem (by omega)]
      simp [show k < l.length by omega]
  refine wp_region_any hm (any_flag (mk := mk) (T := fun a => ∀ w, F true w → wpList P l.toArray Q (l.drop m) a w) true hB (fun a w hc ht => ?_) _ _ _ _ _ false (hC _) ?_ rfl (by simp) (fun j _ hj => ?_) ?_ ?_)
  · have he := wpOps_eq_wpList (P := P) (Q := Q) (ops := l.toArray) (l.drop m) m (fun j => by simp [List.getElem?_drop])
    have h1 := ht w hc
    rw [← he] at h1
    simpa using h1
  · rw [hu, hop, hmk]; rfl
  · have : j < l.length := by simpa using hj
    simp [this]
  · rw [hu, hop]; exact h
  · have : (unH l.toArray (Array.replicate l.toArray.size false) m).length ≤ m := by
      unfold unH; exact Nat.le_trans (List.length_filter_le _ _) (by simp)
    simp at *; omega
end Go.K
/-
  The store of a row of any size at a step of a region with two classes of worlds.
-/
namespace Go.K
set_option linter.unusedVariables false
set_option linter.unusedSimpArgs false
/-- A plain list of operations of which the first is a store: 'with_reducible refine at_store_op ?_' fails at once elsewhere. -/
theorem at_store_op {P : Program} {ops : Array Oper} {Q : Exit → Act → World → Prop} {rest : List Oper} {a : Act} {w : World} {d : Option Tmp} {ty : TypeId} {x y : Operand} {tt : TypeId} {pos : String} {af : Array Edge} {gd : Option (Nat × Bool)}
    (h : wpList P ops Q ({ dst := d, op := .store ty x y, type := tt, pos := pos, after := af, guard := gd } :: rest) a w) : wpList P ops Q ({ dst := d, op := .store ty x y, type := tt, pos := pos, after := af, guard := gd } :: rest) a w := h
def isStore (o : Oper) : Bool := match o.op with | .store _ _ _ => true | _ => false
theorem inv_store_lit {P : Program} {C : World → Prop} {a : Act} {w : World} {x y : Operand} {tt : TypeId} {pos : String} {af : Array Edge} (ty : TypeId)
    (g o : Nat) {cur : Array Value} {t : TypeId} (new : Array Value) (v : Value) (hr : w.heap[g]? = some (.cells cur t (0, 0))) (hi : (P.info? ty).map (·.size) = some v.cells.size) (hs : o + v.cells.size ≤ cur.size)
    (h1 : v.cells.toList.all (·.oneCell') = true)
    (hn : (cur.toList.take o ++ v.cells.toList ++ cur.toList.drop (o + v.cells.size)).toArray = new)
    (hx : a.eval x = .pointer (some ⟨g, o, none⟩)) (hy : a.eval y = v)
    (h : ∀ W, Put w g (.cells new t) W → C W) :
    InvRun P C undef ((execOp a.eval { dst := none, op := .store ty x y, type := tt, pos := pos, after := af, guard := none }).run P w) := by
  have hrun := run_storeAt_seg (P := P) ty g o cur new v t hr hs hi (by simpa using h1) hn
  unfold execOp
  simp only [hx, hy, Sem.run_bind, hrun, Result.andThen_ok, Sem.run_pure]
  first
    | exact ⟨h _ (put_setRow hr), rfl⟩
    | exact h _ (put_setRow hr)
end Go.K
/-
  A slice of a slice at its operation; the same text for every seat (no program in it).
-/
namespace Go.K
open Go.RowKit
set_option linter.unusedVariables false
/-- A plain list of operations of which the first is a slice. -/
theorem at_slice_op {P : Program} {ops : Array Oper} {Q : Exit → Act → World → Prop} {rest : List Oper} {a : Act} {w : World} {d : Option Tmp} {ty : TypeId} {x : Operand} {l h m : Option Operand} {tt : TypeId} {pos : String} {af : Array Edge} {gd : Option (Nat × Bool)}
    (k : wpList P ops Q ({ dst := d, op := .slice ty x l h m, type := tt, pos := pos, after := af, guard := gd } :: rest) a w) : wpList P ops Q ({ dst := d, op := .slice ty x l h m, type := tt, pos := pos, after := af, guard := gd } :: rest) a w := k
theorem wpList_slice_lo {P : Program} {ops : Array Oper} {rest : List Oper} {a : Act} {w : World} {Q : Exit → Act → World → Prop} {x l : Operand} {d : Option Tmp} {t tt : TypeId} {pos : String} {af : Array Edge}
    {e : TypeId} (ht : P.underlying t = some (.slice e)) (vx vl v : Value) (hx : a.eval x = vx) (hl : a.eval l = vl) (hrun : ∀ w, (Instr.slice t vx (some vl) none none).run P w = .ok v w)
    (h : wpList P ops Q rest (a.put d v) w) : wpList P ops Q ({ dst := d, op := .slice t x (some l) none none, type := tt, pos := pos, after := af, guard := none } :: rest) a w :=
  wpList_plain rfl fun _ hK => by
    unfold Oper.wp execOp
    simp only [hx, hl, Option.map, Instr.sliceAt, run_underlying ht, Sem.run_bind, hrun, Result.andThen_ok, Sem.run_pure]
    exact hK _ _ h
theorem wpList_slice_hi {P : Program} {ops : Array Oper} {rest : List Oper} {a : Act} {w : World} {Q : Exit → Act → World → Prop} {x l : Operand} {d : Option Tmp} {t tt : TypeId} {pos : String} {af : Array Edge}
    {e : TypeId} (ht : P.underlying t = some (.slice e)) (vx vl v : Value) (hx : a.eval x = vx) (hl : a.eval l = vl) (hrun : ∀ w, (Instr.slice t vx none (some vl) none).run P w = .ok v w)
    (h : wpList P ops Q rest (a.put d v) w) : wpList P ops Q ({ dst := d, op := .slice t x none (some l) none, type := tt, pos := pos, after := af, guard := none } :: rest) a w :=
  wpList_plain rfl fun _ hK => by
    unfold Oper.wp execOp
    simp only [hx, hl, Option.map, Instr.sliceAt, run_underlying ht, Sem.run_bind, hrun, Result.andThen_ok, Sem.run_pure]
    exact hK _ _ h
theorem run_slice_hi {P : Program} {t e : TypeId} {size : Nat} (h : P.underlying t = some (.slice e)) (hz : (P.info? e).map (·.size) = some size) (a : Option Addr) (ha : ∃ b o, a = some ⟨b, o, none⟩) (len cap : Nat) (k : IntKind) (hi : Int) (n : Nat)
    (h1 : hi = n) (h2 : n ≤ cap) (w : World) :
    (Instr.slice t (.slice a len cap) none (some (.int k hi)) none).run P w = .ok (.slice a n cap) w := by
  obtain ⟨i, hi', hs⟩ := Option.map_eq_some_iff.1 hz
  obtain ⟨b, o, rfl⟩ := ha
  subst h1 hs
  have c1 : (0 : Int) ≤ (n : Int) ∧ (n : Int) ≤ (cap : Int) := by omega
  have c2 : (0 : Int) ≤ (n : Int) := by omega
  simp only [Instr.slice, Instr.sliceBounds, Instr.sliceBound, asIntOf, run_underlying h, sizeOf, typeInfo, Sem.run_bind, Sem.run_pure, Result.andThen_ok, if_pos c1, Int.toNat_natCast, Option.isSome]
  by_cases hc : cap = 0 <;> simp [hi', hc, Addr.add]
/-- At a step of a region that draws: an append. -/
theorem at_append_step {P : Program} {ops : Array Oper} {a : Act} {w : World} {K : Act → World → Prop} {Q : Exit → Act → World → Prop} {E : Prop} {d : Option Tmp} {args : Array Operand} {ts : Array TypeId} {tt : TypeId} {pos : String} {af : Array Edge} {gd : Option (Nat × Bool)}
    (h : if Region.wanted { dst := d, op := .call { callee := .builtin .append, args := args, argTypes := ts }, type := tt, pos := pos, after := af, guard := gd } (yielded ops a.tmps) = true then Oper.wp P { dst := d, op := .call { callee := .builtin .append, args := args, argTypes := ts }, type := tt, pos := pos, after := af, guard := gd } a w K Q else E) :
    if Region.wanted { dst := d, op := .call { callee := .builtin .append, args := args, argTypes := ts }, type := tt, pos := pos, after := af, guard := gd } (yielded ops a.tmps) = true then Oper.wp P { dst := d, op := .call { callee := .builtin .append, args := args, argTypes := ts }, type := tt, pos := pos, after := af, guard := gd } a w K Q else E := h
theorem owns_len {w : World} {b : Nat} {e : TypeId} {size n : Nat} {v : Value} {xs : List Value} (h : w.ownsRow b e size v n xs) : ∃ ad cap, v = .slice ad n cap ∧ n ≤ cap ∧ cap ≤ maxLen ∧ (0 < n → ∃ g, ad = some ⟨g, 0, none⟩) ∧ (ad = none → cap = 0 ∧ n = 0) := by
  rcases h.2 with ⟨rfl, rfl⟩ | ⟨g, cap, cur, rfl, _, _, hle, hcm, _⟩
  · exact ⟨none, 0, rfl, Nat.le_refl _, Nat.zero_le _, fun h => absurd h (Nat.lt_irrefl 0), fun _ => ⟨rfl, rfl⟩⟩
  · exact ⟨_, cap, rfl, hle, hcm, fun _ => ⟨g, rfl⟩, fun h => by cases h⟩
theorem owns_cell {w : World} {base : Nat} {e : TypeId} {size n : Nat} {g cap : Nat} {xs : List Value} {v : Value} (h : w.ownsRow base e size (.slice (some ⟨g, 0, none⟩) n cap) n xs) (j : Nat) (hj : xs[j]? = some v) : w.cell? ⟨g, j, none⟩ = some v := by
  have := h.cells (g := g) rfl j v hj
  rw [add_spot, Nat.zero_add] at this
  exact this
end Go.K
/-
  What a row's readings give a walk: integers as bit vectors, bytes as a list, the reach. The same text for every seat.
-/
namespace Go.K
open Go.RowKit Go.ChangeShapes Go.WideShapes Go.ChangeAt
set_option linter.unusedVariables false

theorem u64_of_wf {n : Int} (h : (Lit.int .u64 n).wf = true) : ∃ x : BitVec 64, n = U64 x := by
  have : 0 ≤ n ∧ n ≤ 18446744073709551615 := by simpa [Lit.wf, IntKind.min, IntKind.max, IntKind.signed, IntKind.bits] using h
  exact ⟨BitVec.ofInt 64 n, (U64_ofInt_of n this.1 this.2).symm⟩
theorem i64_of_wf {n : Int} (h : (Lit.int .i64 n).wf = true) : -9223372036854775808 ≤ n ∧ n ≤ 9223372036854775807 := by
  simpa [Lit.wf, IntKind.min, IntKind.max, IntKind.signed, IntKind.bits] using h
theorem u8_of_wf {n : Int} (h : (Lit.int .u8 n).wf = true) : ∃ x : BitVec 8, n = U8 x := by
  have : 0 ≤ n ∧ n ≤ 255 := by simpa [Lit.wf, IntKind.min, IntKind.max, IntKind.signed, IntKind.bits] using h
  refine ⟨BitVec.ofInt 8 n, ?_⟩
  unfold U8; rw [BitVec.toNat_ofInt]; omega
theorem add_spot' (b off j : Nat) : (⟨b, off, none⟩ : Addr).add j = ⟨b, off + j, none⟩ := by
  unfold Addr.add
  split
  · rename_i h; subst h; rfl
  · rfl
theorem cell_none {w : World} {a : Addr} {v : Value} (h : w.cell? a = some v) : a.spot = none := World.cell?_spot h
/-- A slice of bytes that came in: its bytes; its bounds; the reach. -/
theorem open_bytes {H : Type} {enc : TypeId × Value → H} {P : Program} {W : World} {t e : TypeId} {a : Option Addr} {len cap : Nat} {d : DataW H} {p : List MemPlace}
    (ht : P.underlying t = some (.slice e)) (he : P.underlying e = some (.int .u8)) (hc : P.cellsOf e = 1) (hby : P.bytesOf e = 1)
    (h : DataW.Trod enc P W 0 (fun _ => true) true t (.slice a len cap) d p)
    {ts : List TypeId} {ds : List (DataW H)} (hsz : (DataW.weightsEach P ts ds).all (· ≤ reachBytes) = true) {j : Nat} (hj : ts[j]? = some t) (hd : ds[j]? = some d) :
    ∃ l : List (BitVec 8), len = l.length ∧ Sl W a (vBs l) ∧ l.length ≤ cap ∧ cap ≤ 140737488351232 ∧ (a = none → l.length = 0 ∧ cap = 0) := by
  obtain ⟨fuel, hf⟩ := h
  rcases open_ints ht he hc hf with ⟨hcs, hx⟩ | ⟨x, len', cap', zs, hcs, _, hl, hm, hz, hx, hcell, hwz⟩
  · simp [Value.cells] at hcs
    obtain ⟨rfl, rfl, rfl⟩ := hcs
    exact ⟨[], rfl, Sl.nil _ _, Nat.le_refl _, by omega, fun _ => ⟨rfl, rfl⟩⟩
  · simp [Value.cells] at hcs
    obtain ⟨rfl, rfl, rfl⟩ := hcs
    simp only [Prod.mk.injEq] at hx
    obtain ⟨rfl, rfl⟩ := hx
    simp only [if_true] at hz
    have hr := sized_slice hsz hj hd ht
    rw [hby] at hr
    simp only [lits, List.length_map, List.length_take, List.length_drop, reachBytes] at hr
    have hlen : ((zs.take len).map (BitVec.ofInt 8)).length = len := by simp; omega
    refine ⟨(zs.take len).map (BitVec.ofInt 8), hlen.symm, ?_, by omega, by omega, fun h => by cases h⟩
    intro hne
    have h0 : 0 < len := by
      rcases Nat.eq_zero_or_pos len with h' | h'
      · subst h'; exact absurd (by simp [vBs]) hne
      · exact h'
    obtain ⟨b, off, spot⟩ := x
    have hspot : spot = none := by simpa [Addr.add] using World.cell?_spot (hcell 0 (by omega))
    subst hspot
    refine ⟨b, off, rfl, fun i hi => ?_⟩
    rw [vBs_length, hlen] at hi
    have h1 := hcell i (by omega)
    rw [add_spot'] at h1
    have hz1 : zs[i]? = some zs[i] := List.getElem?_eq_getElem (by omega)
    have hw := hwz zs[i] (List.getElem_mem _)
    have hb : 0 ≤ zs[i] ∧ zs[i] ≤ 255 := by simpa [Lit.wf, IntKind.min, IntKind.max, IntKind.signed, IntKind.bits] using hw
    have hu : U8 (BitVec.ofInt 8 zs[i]) = zs[i] := by unfold U8; rw [BitVec.toNat_ofInt]; omega
    rw [h1]
    simp only [vBs, List.getElem?_map, List.getElem?_take_of_lt hi, hz1, Option.map_some, vB, hu, List.getD, Option.getD_some]
end Go.K
/-
  Readings of flat cells: integers and bools inside a row that came in. The same text for every seat (no program in it).
-/
namespace Go.K
open Go.RowKit Go.ChangeShapes Go.WideShapes Go.ChangeAt
set_option linter.unusedVariables false
theorem trod_int_inv {H : Type} {enc : TypeId × Value → H} {P : Program} {W : World} {base : Nat} {sp : Nat → Bool} {held : Bool} {fuel : Nat} {t : TypeId} {k : IntKind} {v : Value} {x : DataW H × List MemPlace}
    (ht : P.underlying t = some (.int k)) (h : DataW.trod enc P W base sp held fuel t [v] = some x) : ∃ n, v = .int k n ∧ (Lit.int k n).wf = true := by
  cases fuel with
  | zero => simp [DataW.trod] at h
  | succ fuel =>
    unfold DataW.trod at h
    rw [ht] at h
    cases v <;> simp at h
    obtain ⟨⟨rfl, hw⟩, _⟩ := h
    exact ⟨_, rfl, hw⟩
theorem trod_bool_inv {H : Type} {enc : TypeId × Value → H} {P : Program} {W : World} {base : Nat} {sp : Nat → Bool} {held : Bool} {fuel : Nat} {t : TypeId} {v : Value} {x : DataW H × List MemPlace}
    (ht : P.underlying t = some .bool) (h : DataW.trod enc P W base sp held fuel t [v] = some x) : ∃ b, v = .bool b := by
  cases fuel with
  | zero => simp [DataW.trod] at h
  | succ fuel =>
    unfold DataW.trod at h
    rw [ht] at h
    cases v <;> simp at h
    exact ⟨_, rfl⟩
theorem weights_mem_all {H : Type} {P : Program} {e : TypeId} : ∀ {ds : List (DataW H)} {d : DataW H}, d ∈ ds → ∀ n ∈ d.weights P e, n ∈ DataW.weightsAll P e ds
  | d0 :: ds, d, hd, n, hn => by
    rw [DataW.weightsAll]
    rcases List.mem_cons.1 hd with rfl | hd
    · exact List.mem_append_left _ hn
    · exact List.mem_append_right _ (weights_mem_all hd n hn)
end Go.K
/-
  A region that draws its order and in which one plain move may come behind the first store (Departure.lateStores): walked in the text's order all the same.
-/
namespace Go.K
set_option linter.unusedVariables false
set_option linter.unusedSimpArgs false

section
variable {P : Program} {ops : Array Oper} {C D : World → Prop} {Q : Exit → Act → World → Prop}
def waits2 (ops : Array Oper) (o : Oper) (j : Nat) : Bool :=
  waitsOn o j || o.after.any fun e => Region.binds .any e && (match ops[e.on]? with | some q => waitsOn q j | none => false)
/-- The first operation of the tail, from a frame: from a world of C into one of D. -/
def lateT (P : Program) (ops : Array Oper) (C D : World → Prop) (Q : Exit → Act → World → Prop) (m : Nat) (om : Oper) (a : Act) : Prop :=
  Region.wanted om (yielded ops a.tmps) = true ∧ ∃ u, (∀ w, C w → InvRun P D u ((execOp a.eval om).run P w)) ∧ ∀ w, D w → wpOps P ops Q (List.range' (m + 1) (ops.size - (m + 1))) (a.put om.dst u) w
theorem late_wp {i : Nat} {o : Oper} (ho : ops[i]? = some o) {a : Act} {w : World} {K' : Act → World → Prop} (h1 : Region.wanted o (yielded ops a.tmps) = true) {u : Value} (h4 : InvRun P D u ((execOp a.eval o).run P w))
    (hk : ∀ w, D w → K' (a.put o.dst u) w) : wpOp P ops Q i K' a w := by
  unfold wpOp
  rw [ho]
  dsimp only
  rw [if_pos h1]
  left
  unfold Oper.wp
  generalize (execOp a.eval o).run P w = r at h4
  cases r with
  | ok n w' =>
    cases n <;> simp only [InvRun] at h4 <;> simp only [Oper.upon]
    case value u =>
      obtain ⟨hc, rfl⟩ := h4
      exact hk _ hc
    case skip =>
      obtain ⟨hc, rfl⟩ := h4
      exact hk _ hc
    case enter f args =>
      exact h4.mono fun e w'' ⟨he, hc⟩ => by subst he; exact hk _ hc
  | halt x w' => simp only [InvRun] at h4
variable {m : Nat}
theorem any_late (hB : regB ops (m + 1) = true) {p : Nat} (hp : p < m) {op om : Oper} (hop : ops[p]? = some op) (hom : ops[m]? = some om)
    (hmv : ∀ (a : Act) (w : World), (execOp a.eval op).run P w = .ok (.value (match op.op with | .move x => a.eval x | _ => undef)) w) (hw : ∀ y, Region.wanted op y = true)
    (h2 : ∀ j, j < m → j ≠ p → waits2 ops om j = true) (hap2 : om.apart ops op = true) :
    ∀ (n fuel : Nat) (listed : Array Bool) (a : Act) (w : World), C w → (unH ops listed m).length = n →
    listed.size = ops.size → (∀ j, m ≤ j → j < ops.size → listed.getD j true = false) →
    (∀ i o, ops[i]? = some o → listed.getD i false = true → ∀ e ∈ o.after, Region.binds .any e = true → listed.getD e.on false = true) →
    wpInv P ops C (lateT P ops C D Q m om) (opsAt ops (unH ops listed m)) a → n + (ops.size - m) ≤ fuel → wpAny P .any ops Q fuel listed a w := by
  obtain ⟨hns, hm, hdn, hap⟩ := regB_spec hB
  have hsel : ∀ (j : Nat) (q : Oper), ops[j]? = some q → ∀ cs b, q.op ≠ .select cs b := fun j q hq cs b => Region.noSelect_spec hns j q cs b hq
  have hms : m < ops.size := by omega
  intro n
  induction n with
  | zero =>
    intro fuel listed a w hc hn hsz htl hdc h hf
    have hnil : unH ops listed m = [] := List.eq_nil_of_length_eq_zero hn
    rw [hnil] at h
    have hlt : ∀ j, j < m → listed.getD j false = true := fun j hj => by
      have : j ∉ unH ops listed m := by rw [hnil]; exact List.not_mem_nil
      rw [mem_unH] at this
      simp [hj] at this
      have hj' : j < listed.size := by omega
      simp [hj'] at this ⊢; exact this
    cases fuel with
    | zero => omega
    | succ fuel =>
      have hmr : m ∈ Region.ready .any ops listed := by
        refine mem_ready.2 ⟨htl m (Nat.le_refl _) hms, om, hom, fun e he hb => hlt _ ?_⟩
        exact hdn m om hom e he hb
      refine ⟨fun h0 => by rw [h0] at hmr; (cases hmr), fun i hi => ?_⟩
      obtain ⟨h0, o, ho, hall⟩ := mem_ready.1 hi
      have hin := (Array.getElem?_eq_some_iff.1 ho).1
      have him : i = m := by
        rcases Nat.lt_trichotomy i m with h1 | h1 | h1
        · have := hlt i h1
          have hj' : i < listed.size := by omega
          simp [hj'] at this h0; rw [this] at h0; cases h0
        · exact h1
        · exfalso
          rcases hap i o ho m om h1 hom with h3 | ⟨h3, _⟩
          · have := waits_listed h3 hall
            have h4 := htl m (Nat.le_refl _) hms
            have hj' : m < listed.size := by omega
            simp [hj'] at this h4; rw [this] at h4; cases h4
          · omega
      subst him
      obtain ⟨hw1, u, hu, hrest⟩ := h
      rw [hom] at ho
      injection ho with ho
      subst ho
      refine late_wp hom hw1 (hu w hc) fun w' hd => ?_
      refine any_tail hB (ops.size - (i + 1)) (i + 1) fuel _ _ w' (Nat.le_refl _) (by omega) (by simpa using hsz) (fun j hj => ?_) (hrest w' hd) (by omega)
      by_cases e : i = j
      · subst e
        have : i < listed.size := by omega
        simp [this]
      · rw [getD_set_ne true e]
        rcases Nat.lt_or_ge j i with h1 | h1
        · have := hlt j h1
          have hj' : j < listed.size := by omega
          simp [hj'] at this ⊢; rw [this]; simp; omega
        · rw [htl j h1 hj]; simp; omega
  | succ n ih =>
    intro fuel listed a w hc hn hsz htl hdc h hf
    have hgd : ∀ j, j < ops.size → listed.getD j true = false → listed.getD j false = false := by
      intro j hj h1
      have hj' : j < listed.size := by omega
      simp [hj'] at h1 ⊢; exact h1
    have hgt : ∀ j, j < ops.size → listed.getD j false = false → listed.getD j true = false := by
      intro j hj h1
      have hj' : j < listed.size := by omega
      simp [hj'] at h1 ⊢; exact h1
    cases fuel with
    | zero => omega
    | succ fuel =>
      refine ⟨fun h0 => ?_, fun i hi => ?_⟩
      · exfalso
        cases hu : unH ops listed m with
        | nil => rw [hu] at hn; cases hn
        | cons i rest =>
          have hs := unH_sorted (ops := ops) listed m
          have hmem := mem_unH.1 (show i ∈ unH ops listed m by rw [hu]; exact List.mem_cons_self ..)
          have hin : i < ops.size := by omega
          have : i ∈ Region.ready .any ops listed := by
            refine mem_ready.2 ⟨hmem.2, ops[i], Array.getElem?_eq_getElem hin, fun e he hb => ?_⟩
            have hlt := hdn i _ (Array.getElem?_eq_getElem hin) e he hb
            cases hx : listed.getD e.on false
            · exfalso
              have hm2 : e.on ∈ unH ops listed m := mem_unH.2 ⟨by omega, hgt _ (by omega) hx⟩
              rw [hu] at hm2 hs
              rcases List.mem_cons.1 hm2 with h1 | h1
              · omega
              · have := (List.pairwise_cons.1 hs).1 _ h1; omega
            · rfl
          rw [h0] at this; cases this
      · obtain ⟨h0, o, ho, hall⟩ := mem_ready.1 hi
        have hin := (Array.getElem?_eq_some_iff.1 ho).1
        rcases Nat.lt_trichotomy i m with him | him | him
        · obtain ⟨pre, post, he, hpre, hset⟩ := unH_split (ops := ops) (mem_unH.2 ⟨him, h0⟩)
          rw [he, opsAt_append, opsAt_cons _ ho] at h
          have h2' := wpInv_take (hsel i o ho) (opsAt ops pre) (fun q hq => by
            obtain ⟨j, hj, hjp⟩ := List.mem_filterMap.1 hq
            have hjp' : ops[j]? = some q := hjp
            refine ⟨?_, hsel j q hjp'⟩
            rcases hap i o ho j q (hpre j hj) hjp' with h3 | ⟨_, h3⟩
            · exfalso
              have := waits_listed h3 hall
              have hju : j ∈ unH ops listed m := by rw [he]; exact List.mem_append_left _ hj
              rw [hgd j (Array.getElem?_eq_some_iff.1 hjp').1 (mem_unH.1 hju).2] at this; cases this
            · exact h3) a h
          rw [← opsAt_append, ← hset] at h2'
          refine invOne_wp ho hc (fun a' w' hc' h' => ih fuel _ a' w' hc' ?_ (by simpa using hsz) (fun j h1 h2 => ?_) (fun k q hq hk e he' hb => ?_) h' (by omega)) h2'
          · rw [hset]; rw [he] at hn; simp at hn ⊢; omega
          · rw [getD_set_ne true (by omega)]; exact htl j h1 h2
          · have key : listed.getD e.on false = true := by
              by_cases e1 : i = k
              · subst e1
                rw [hq] at ho; injection ho with ho; subst ho
                exact hall e he' hb
              · rw [getD_set_ne false e1] at hk
                exact hdc k q hq hk e he' hb
            by_cases e2 : i = e.on
            · rw [← e2]
              have : i < listed.size := by omega
              simp [this]
            · rw [getD_set_ne false e2]; exact key
        · -- the first of the tail, the move pending
          subst him
          rw [hom] at ho; injection ho with ho; subst ho
          have hall' : ∀ j ∈ unH ops listed i, j = p := by
            intro j hj
            obtain ⟨hji, hjl⟩ := mem_unH.1 hj
            by_cases e : j = p
            · exact e
            · exfalso
              have h3 := h2 j hji e
              unfold waits2 at h3
              rw [Bool.or_eq_true] at h3
              rcases h3 with h3 | h3
              · have := waits_listed h3 hall
                rw [hgd j (by omega) hjl] at this; cases this
              · obtain ⟨e', he', hb'⟩ := Array.any_eq_true'.1 h3
                simp only [Bool.and_eq_true] at hb'
                obtain ⟨hb1, hb2⟩ := hb'
                cases hq : ops[e'.on]? with
                | none => rw [hq] at hb2; cases hb2
                | some q =>
                  rw [hq] at hb2
                  have hl := hall e' he' hb1
                  have := waits_listed hb2 (hdc e'.on q hq hl)
                  rw [hgd j (by omega) hjl] at this; cases this
          have hone : unH ops listed i = [p] := by
            have hs := unH_sorted (ops := ops) listed i
            cases hu : unH ops listed i with
            | nil => rw [hu] at hn; cases hn
            | cons x rest =>
              rw [hu] at hall' hs
              have hx := hall' x (List.mem_cons_self ..)
              subst hx
              cases rest with
              | nil => rfl
              | cons y r2 =>
                have hy := hall' y (List.mem_cons_of_mem _ (List.mem_cons_self ..))
                have := (List.pairwise_cons.1 hs).1 y (List.mem_cons_self ..)
                omega
          rw [hone, opsAt_cons _ hop] at h
          have hpl : listed.getD p true = false := (mem_unH.1 (show p ∈ unH ops listed i by rw [hone]; exact List.mem_cons_self ..)).2
          rcases h with ⟨_, v, hv, hT⟩ | ⟨hbad, _⟩
          case inr => rw [hw] at hbad; cases hbad
          obtain ⟨hw1, u, hu, hrest⟩ := (show lateT P ops C D Q i om (a.put op.dst v) from hT)
          have hvw := hv w hc
          rw [hmv a w] at hvw
          obtain ⟨_, hvx⟩ := hvw
          obtain ⟨s1, s2, s3⟩ := Oper.apart_spec hap2
          have k1 : execOp (a.put op.dst v).eval om = execOp a.eval om := execOp_put om (hsel i om hom) a op.dst v s3
          have k2 : Region.wanted om (yielded ops (a.put op.dst v).tmps) = Region.wanted om (yielded ops a.tmps) := wanted_put om a op.dst v s3
          rw [k2] at hw1
          refine late_wp hom hw1 (by have := hu w hc; rwa [k1] at this) fun w' hd => ?_
          have k3 : execOp (a.put om.dst u).eval op = execOp a.eval op := execOp_put op (hsel p op hop) a om.dst u s1
          have hpl' : (listed.setIfInBounds i true).getD p true = false := by rw [getD_set_ne true (by omega)]; exact hpl
          cases fuel with
          | zero => omega
          | succ fuel =>
            have hlist : ∀ j, j < i → j ≠ p → listed.getD j true = true := by
              intro j hj hjp
              cases hx : listed.getD j true
              · exact absurd (mem_unH.2 ⟨hj, hx⟩ : j ∈ unH ops listed i) (by rw [hone]; simpa using hjp)
              · rfl
            have hpr : p ∈ Region.ready .any ops (listed.setIfInBounds i true) := by
              refine mem_ready.2 ⟨hpl', op, hop, fun e he hb => ?_⟩
              have hlt := hdn p op hop e he hb
              rw [getD_set_ne false (by omega)]
              have := hlist e.on (by omega) (by omega)
              have hj' : e.on < listed.size := by omega
              simp [hj'] at this ⊢; exact this
            refine ⟨fun h0 => by rw [h0] at hpr; (cases hpr), fun k hk => ?_⟩
            obtain ⟨g0, q, hq, hall2⟩ := mem_ready.1 hk
            have hkn := (Array.getElem?_eq_some_iff.1 hq).1
            have hkp : k = p := by
              rcases Nat.lt_trichotomy k i with h1 | h1 | h1
              · by_cases e : k = p
                · exact e
                · rw [getD_set_ne true (by omega), hlist k h1 e] at g0; cases g0
              · subst h1
                have : k < listed.size := by omega
                simp [this] at g0
              · exfalso
                rcases hap k q hq p op (by omega) hop with h3 | ⟨h3, _⟩
                · have := waits_listed h3 hall2
                  rw [getD_set_ne false (by omega), hgd p (by omega) hpl] at this; cases this
                · omega
            subst hkp
            rw [hop] at hq; injection hq with hq; subst hq
            refine late_wp (D := D) (u := v) hop (hw _) ?_ fun w'' hd' => ?_
            · rw [k3, hmv a w']; exact ⟨hd, hvx⟩
            · rw [Act.put_comm a u v s2]
              refine any_tail hB (ops.size - (i + 1)) (i + 1) fuel _ _ w'' (Nat.le_refl _) (by omega) (by simpa using hsz) (fun j hj => ?_) (hrest w'' hd') (by omega)
              by_cases e : k = j
              · subst e
                have : k < listed.size := by omega
                simp [this]; omega
              · rw [getD_set_ne true e]
                by_cases e2 : i = j
                · subst e2
                  have : i < listed.size := by omega
                  simp [this]
                · rw [getD_set_ne true e2]
                  rcases Nat.lt_or_ge j i with h1 | h1
                  · rw [hlist j h1 (fun h => e h.symm)]; simp; omega
                  · rw [htl j h1 hj]; simp; omega
        · exfalso
          cases hu : unH ops listed m with
          | nil => rw [hu] at hn; cases hn
          | cons j rest =>
            have hmem := mem_unH.1 (show j ∈ unH ops listed m by rw [hu]; exact List.mem_cons_self ..)
            have hjn : j < ops.size := by omega
            rcases hap i o ho j ops[j] (by omega) (Array.getElem?_eq_getElem hjn) with h2 | ⟨h2, _⟩
            · have := waits_listed h2 hall
              rw [hgd j hjn hmem.2] at this; cases this
            · omega
end
/-- What is looked at once, by the kernel: the move that may be late, and that the tail's first operation waits for all the others. -/
def lateB (ops : Array Oper) (m p : Nat) : Bool :=
  decide (p < m) && match ops[p]?, ops[m]? with
    | some op, some om => (match op.op with | .move _ => op.guard.isNone | _ => false) && om.apart ops op && (List.range m).all fun j => j == p || waits2 ops om j
    | _, _ => false
/-- THE LAW. 'm': the first operation of the tail (it leads from C to D); 'p': the move that may be late. -/
theorem wp_region_late {P : Program} {id : Nat} {l : List Oper} {Q : Exit → Act → World → Prop} {a : Act} {w : World} (m p : Nat) (C D : World → Prop) (hm : P.follows .mixedOrders = true) (hB : regB l.toArray (m + 1) = true)
    (hL : lateB l.toArray m p = true) (hC : ∀ n, C { w with drawn := n })
    (h : wpInv P l.toArray C (fun a => match l.drop m with
      | [] => False
      | om :: rest => Region.wanted om (yielded l.toArray a.tmps) = true ∧ ∃ u, (∀ w, C w → InvRun P D u ((execOp a.eval om).run P w)) ∧ ∀ w, D w → wpList P l.toArray Q rest (a.put om.dst u) w) (l.take m) a) :
    (Code.region id l.toArray true).wp P Q a w := by
  have hml : m < l.length := by have := (regB_spec hB).2.1; simp at this; omega
  unfold lateB at hL
  rw [Bool.and_eq_true, decide_eq_true_eq] at hL
  obtain ⟨hp, hL⟩ := hL
  have hom : l.toArray[m]? = some l[m] := by simp [hml]
  have hop : l.toArray[p]? = some (l[p]'(by omega)) := by simp [show p < l.length by omega]
  rw [hom, hop] at hL
  simp only [Bool.and_eq_true, List.all_eq_true, List.mem_range, Bool.or_eq_true, beq_iff_eq] at hL
  obtain ⟨⟨hmv, hap⟩, hall⟩ := hL
  have hmv' : ∃ x, (l[p]'(by omega)).op = .move x ∧ (l[p]'(by omega)).guard = none := by
    generalize (l[p]'(by omega)) = o at hmv
    split at hmv
    · rename_i x hx; exact ⟨x, hx, by simpa using hmv⟩
    · cases hmv
  obtain ⟨x, hx, hg⟩ := hmv'
  have hdrop : l.drop m = l[m] :: l.drop (m + 1) := List.drop_eq_getElem_cons hml
  rw [hdrop] at h
  refine wp_region_any hm (any_late (D := D) hB hp hop hom (fun a w => ?_) (fun y => ?_) (fun j hj hjp => (hall j hj).resolve_left hjp) hap _ _ _ _ _ (hC _) rfl (by simp) (fun j _ hj => ?_) (fun i o ho hi => ?_) ?_ ?_)
  · unfold execOp; rw [hx]; rfl
  · unfold Region.wanted; rw [hg]
  · have : j < l.length := by simpa using hj
    simp [this]
  · exfalso
    have : i < l.length := by have := (Array.getElem?_eq_some_iff.1 ho).1; simpa using this
    simp [this] at hi
  · have hu : unH l.toArray (Array.replicate l.toArray.size false) m = List.range m := by
      unfold unH
      refine List.filter_eq_self.2 fun i hi => ?_
      have : i < l.length := by have := List.mem_range.1 hi; omega
      simp [this]
    rw [hu]
    have ht : ∀ k, k ≤ l.length → opsAt l.toArray (List.range k) = l.take k := by
      intro k
      unfold opsAt
      induction k with
      | zero => intro _; simp
      | succ k ih =>
        intro hk
        rw [List.range_succ, List.filterMap_append, ih (by omega), List.take_succ_eq_append_getElem (by omega)]
        simp [show k < l.length by omega]
    rw [ht m (by omega)]
    have hT : (fun a : Act => Region.wanted l[m] (yielded l.toArray a.tmps) = true ∧ ∃ u, (∀ w, C w → InvRun P D u ((execOp a.eval l[m]).run P w)) ∧ ∀ w, D w → wpList P l.toArray Q (l.drop (m + 1)) (a.put l[m].dst u) w)
        = lateT P l.toArray C D Q m l[m] := by
      funext a
      unfold lateT
      have he := wpOps_eq_wpList (P := P) (Q := Q) (ops := l.toArray) (l.drop (m + 1)) (m + 1) (fun j => by simp [List.getElem?_drop])
      rw [← he]
      simp
    rw [← hT]
    exact h
  · have : (unH l.toArray (Array.replicate l.toArray.size false) m).length ≤ m := by
      unfold unH; exact Nat.le_trans (List.length_filter_le _ _) (by simp)
    simp at *; omega
end Go.K
/-
  The stable sort of Go, in plain Lean: pieces of a row, turned round; what a merge in place makes of two sorted pieces (no program in it).
-/
namespace Go.Stab
set_option linter.unusedVariables false
set_option linter.unusedSimpArgs false
/-- The piece [a, b) of a row. -/
def piece (c : Nat → Nat) (a b : Nat) : List Nat := (List.range' a (b - a)).map c
/-- The same numbers there, in some order. -/
def Prm (c d : Nat → Nat) (a b : Nat) : Prop := (piece d a b).Perm (piece c a b)
def Out (c d : Nat → Nat) (a b : Nat) : Prop := ∀ k, k < a ∨ b ≤ k → d k = c k
def Srt (T : Nat → Nat → Prop) (c : Nat → Nat) (a b : Nat) : Prop := ∀ i j, a ≤ i → i < j → j < b → T (c i) (c j)
/-- Asked whether the right one is less than the left one, the answer says which comes ahead. -/
def Tie (L : Nat → Nat → Bool) (T : Nat → Nat → Prop) (c : Nat → Nat) (a m b : Nat) : Prop := ∀ i j, a ≤ i → i < m → m ≤ j → j < b → (L (c j) (c i) = true → T (c j) (c i)) ∧ (L (c j) (c i) = false → T (c i) (c j))
theorem piece_split (c : Nat → Nat) {a m b : Nat} (h1 : a ≤ m) (h2 : m ≤ b) : piece c a b = piece c a m ++ piece c m b := by
  unfold piece
  rw [← List.map_append]
  congr 1
  have e : b - a = (m - a) + (b - m) := by omega
  have e2 : m = a + 1 * (m - a) := by omega
  rw [e, ← List.range'_append]
  congr 2
  omega
theorem piece_congr {c d : Nat → Nat} {a b : Nat} (h : ∀ k, a ≤ k → k < b → c k = d k) : piece c a b = piece d a b := by
  unfold piece
  apply List.map_congr_left
  intro k hk
  rw [List.mem_range'_1] at hk
  exact h k hk.1 (by omega)
theorem mem_piece {c : Nat → Nat} {a b x : Nat} : x ∈ piece c a b ↔ ∃ k, a ≤ k ∧ k < b ∧ c k = x := by
  unfold piece
  rw [List.mem_map]
  constructor
  · rintro ⟨k, hk, rfl⟩
    rw [List.mem_range'_1] at hk
    exact ⟨k, hk.1, by omega, rfl⟩
  · rintro ⟨k, h1, h2, rfl⟩
    exact ⟨k, List.mem_range'_1.2 ⟨h1, by omega⟩, rfl⟩
theorem piece_shift (c d : Nat → Nat) (a b n : Nat) (h : ∀ k, k < n → c (a + k) = d (b + k)) : piece c a (a + n) = piece d b (b + n) := by
  unfold piece
  have e1 : a + n - a = n := by omega
  have e2 : b + n - b = n := by omega
  rw [e1, e2, List.range'_eq_map_range, List.range'_eq_map_range, List.map_map, List.map_map]
  apply List.map_congr_left
  intro k hk
  rw [List.mem_range] at hk
  exact h k hk
theorem Prm.refl (c : Nat → Nat) (a b : Nat) : Prm c c a b := List.Perm.refl _
theorem Prm.trans {c d e : Nat → Nat} {a b : Nat} (h : Prm c d a b) (k : Prm d e a b) : Prm c e a b := List.Perm.trans k h
theorem Prm.mem {c d : Nat → Nat} {a b : Nat} (h : Prm c d a b) {i : Nat} (h1 : a ≤ i) (h2 : i < b) : ∃ k, a ≤ k ∧ k < b ∧ d i = c k := by
  have : d i ∈ piece d a b := mem_piece.2 ⟨i, h1, h2, rfl⟩
  rw [List.Perm.mem_iff h] at this
  obtain ⟨k, k1, k2, k3⟩ := mem_piece.1 this
  exact ⟨k, k1, k2, k3.symm⟩
theorem Prm.mono {c d : Nat → Nat} {a b a' b' : Nat} (h : Prm c d a b) (ho : Out c d a b) (h1 : a' ≤ a) (h2 : b ≤ b') (h3 : a ≤ b) : Prm c d a' b' := by
  unfold Prm at *
  rw [piece_split d h1 (Nat.le_trans h3 h2), piece_split d h3 h2, piece_split c h1 (Nat.le_trans h3 h2), piece_split c h3 h2]
  have e1 : piece d a' a = piece c a' a := piece_congr fun k _ hk => ho k (.inl hk)
  have e2 : piece d b b' = piece c b b' := piece_congr fun k hk _ => ho k (.inr hk)
  rw [e1, e2]
  exact (List.Perm.refl _).append (h.append (List.Perm.refl _))
theorem Out.refl (c : Nat → Nat) (a b : Nat) : Out c c a b := fun _ _ => rfl
theorem Out.trans {c d e : Nat → Nat} {a b : Nat} (h : Out c d a b) (k : Out d e a b) : Out c e a b := fun i hi => (k i hi).trans (h i hi)
theorem Out.mono {c d : Nat → Nat} {a b a' b' : Nat} (h : Out c d a b) (h1 : a' ≤ a) (h2 : b ≤ b') : Out c d a' b' := fun k hk => h k (by omega)
theorem Srt.congr {T : Nat → Nat → Prop} {c d : Nat → Nat} {a b : Nat} (h : Srt T c a b) (he : ∀ k, a ≤ k → k < b → d k = c k) : Srt T d a b := fun i j h1 h2 h3 => by
  rw [he i h1 (by omega), he j (by omega) h3]; exact h i j h1 h2 h3
/-- [s, m) and [m, e) change places. -/
def rot (c : Nat → Nat) (s m e k : Nat) : Nat := if s ≤ k ∧ k < s + (e - m) then c (k + (m - s)) else if s + (e - m) ≤ k ∧ k < e then c (k - (e - m)) else c k
theorem rot_out (c : Nat → Nat) {s m e : Nat} (h1 : s ≤ m) (h2 : m ≤ e) : Out c (rot c s m e) s e := fun k hk => by
  unfold rot; rw [if_neg (by omega), if_neg (by omega)]
theorem rot_left (c : Nat → Nat) {s m e k : Nat} (h1 : s ≤ m) (h2 : m ≤ e) (h : k < e - m) : rot c s m e (s + k) = c (m + k) := by
  unfold rot; rw [if_pos (by omega)]; congr 1; omega
theorem rot_right (c : Nat → Nat) {s m e k : Nat} (h1 : s ≤ m) (h2 : m ≤ e) (h : k < m - s) : rot c s m e (s + (e - m) + k) = c (s + k) := by
  unfold rot; rw [if_neg (by omega), if_pos (by omega)]; congr 1; omega
theorem rot_prm (c : Nat → Nat) {s m e : Nat} (h1 : s ≤ m) (h2 : m ≤ e) : Prm c (rot c s m e) s e := by
  unfold Prm
  rw [piece_split (rot c s m e) (show s ≤ s + (e - m) by omega) (show s + (e - m) ≤ e by omega), piece_split c h1 h2]
  have e1 : piece (rot c s m e) s (s + (e - m)) = piece c m e := by
    have h := piece_shift (rot c s m e) c s m (e - m) (fun k hk => rot_left c h1 h2 hk)
    rw [h]; congr 1; omega
  have e2 : piece (rot c s m e) (s + (e - m)) e = piece c s m := by
    have h := piece_shift (rot c s m e) c (s + (e - m)) s (m - s) (fun k hk => rot_right c h1 h2 hk)
    have e3 : s + (e - m) + (m - s) = e := by omega
    have e4 : s + (m - s) = m := by omega
    rw [e3, e4] at h; exact h
  rw [e1, e2]
  exact List.perm_append_comm
theorem rot_none (c : Nat → Nat) {s m e : Nat} (h : s = m ∨ m = e) : rot c s m e = c := by
  funext k
  unfold rot
  rcases h with rfl | rfl
  · split
    · congr 1; omega
    · rw [if_neg (by omega)]
  · rw [if_neg (by omega)]
    split
    · congr 1; omega
    · rfl
/-- Two pieces of n change places. -/
def swr (c : Nat → Nat) (a b n k : Nat) : Nat := if a ≤ k ∧ k < a + n then c (k + (b - a)) else if b ≤ k ∧ k < b + n then c (k - (b - a)) else c k
theorem swr_zero (c : Nat → Nat) (a b : Nat) : swr c a b 0 = c := by
  funext k; unfold swr; rw [if_neg (by omega), if_neg (by omega)]
/-- Two places change. -/
def swp (c : Nat → Nat) (i j k : Nat) : Nat := if k = i then c j else if k = j then c i else c k
theorem swp_comm (c : Nat → Nat) (i j : Nat) : swp c i j = swp c j i := by
  funext k; unfold swp
  by_cases h1 : k = i
  · subst h1
    by_cases h2 : k = j
    · subst h2; rfl
    · rw [if_pos rfl, if_neg h2, if_pos rfl]
  · rw [if_neg h1]
    by_cases h2 : k = j
    · rw [if_pos h2, if_pos h2]
    · rw [if_neg h2, if_neg h2, if_neg h1]
theorem swr_step (c : Nat → Nat) (a b n : Nat) (h : a + n < b) : swp (swr c a b n) (a + n) (b + n) = swr c a b (n + 1) := by
  funext k
  unfold swp swr
  by_cases h1 : k = a + n
  · subst h1
    rw [if_pos rfl, if_neg (by omega), if_neg (by omega), if_pos (by omega)]
    congr 1; omega
  · rw [if_neg h1]
    by_cases h2 : k = b + n
    · subst h2
      rw [if_pos rfl, if_neg (by omega), if_neg (by omega), if_neg (by omega), if_pos (by omega)]
      congr 1; omega
    · rw [if_neg h2]
      by_cases h3 : a ≤ k ∧ k < a + n
      · rw [if_pos h3, if_pos (by omega)]
      · rw [if_neg h3, if_neg (show ¬ (a ≤ k ∧ k < a + (n + 1)) by omega)]
        by_cases h4 : b ≤ k ∧ k < b + n
        · rw [if_pos h4, if_pos (by omega)]
        · rw [if_neg h4, if_neg (by omega)]
/-- One step of turning round: the greater side is on the left (on the right). -/
theorem rot_left_step (c : Nat → Nat) (m i j : Nat) (hi : i ≤ m) (h : j < i) : rot (swr c (m - i) m j) (m - i + j) m (m + j) = rot c (m - i) m (m + j) := by
  funext k
  unfold rot swr
  by_cases h1 : m - i ≤ k ∧ k < m - i + (m + j - m)
  · rw [if_neg (by omega), if_neg (by omega), if_pos (by omega), if_pos h1]
  · rw [if_neg h1]
    by_cases h2 : m - i + (m + j - m) ≤ k ∧ k < m + j
    · rw [if_pos h2]
      by_cases h3 : k < m - i + j + (m + j - m)
      · rw [if_pos (by omega), if_neg (by omega), if_pos (by omega)]
        congr 1; omega
      · rw [if_neg (by omega), if_pos (by omega), if_neg (by omega), if_neg (by omega)]
    · rw [if_neg h2, if_neg (by omega), if_neg (by omega), if_neg (by omega), if_neg (by omega)]
theorem rot_right_step (c : Nat → Nat) (m i j : Nat) (hi : i ≤ m) (h : i < j) : rot (swr c (m - i) (m + j - i) i) (m - i) m (m + (j - i)) = rot c (m - i) m (m + j) := by
  funext k
  unfold rot swr
  by_cases h1 : m - i ≤ k ∧ k < m - i + (m + j - m)
  · rw [if_pos h1]
    by_cases h2 : k < m - i + (m + (j - i) - m)
    · rw [if_pos (by omega)]
      by_cases h3 : k + (m - (m - i)) < m
      · omega
      · rw [if_neg (by omega)]
        rw [if_neg (by omega)]
    · rw [if_neg (by omega)]
      by_cases h3 : k < m + (j - i)
      · rw [if_pos (by omega), if_pos (by omega)]
        congr 1; omega
      · omega
  · rw [if_neg h1]
    by_cases h2 : m - i + (m + j - m) ≤ k ∧ k < m + j
    · rw [if_pos h2, if_neg (by omega), if_neg (by omega), if_neg (by omega), if_pos (by omega)]
      congr 1; omega
    · rw [if_neg h2, if_neg (by omega), if_neg (by omega), if_neg (by omega), if_neg (by omega)]
theorem rot_even (c : Nat → Nat) (m i : Nat) (hi : i ≤ m) : swr c (m - i) m i = rot c (m - i) m (m + i) := by
  funext k
  unfold rot swr
  by_cases h1 : m - i ≤ k ∧ k < m - i + i
  · rw [if_pos h1, if_pos (by omega)]
  · rw [if_neg h1]
    by_cases h2 : m ≤ k ∧ k < m + i
    · rw [if_pos h2, if_neg (by omega), if_pos (by omega)]
      congr 1; omega
    · rw [if_neg h2, if_neg (by omega), if_neg (by omega)]
/-- Where two sorted pieces are cut, so that what goes left is less than what goes right. -/
structure Cut (L : Nat → Nat → Bool) (T : Nat → Nat → Prop) (c : Nat → Nat) (a m b mid start : Nat) : Prop where
  ha : a ≤ start
  hm : start ≤ m
  he1 : m ≤ mid + m - start
  he2 : mid + m - start ≤ b
  hs : start ≤ mid
  left : ∀ i j, a ≤ i → i < start → mid + m - start ≤ j → j < b → T (c i) (c j)
  right : ∀ i j, m ≤ i → i < mid + m - start → start ≤ j → j < m → T (c i) (c j)
/-- Behind the turn: two pairs of sorted pieces, the first pair less than the second. -/
theorem Cut.turned {L : Nat → Nat → Bool} {T : Nat → Nat → Prop} {c : Nat → Nat} {a m b mid start : Nat} (h : Cut L T c a m b mid start) (htr : ∀ x y z, T x y → T y z → T x z)
    (h1 : Srt T c a m) (h2 : Srt T c m b) (ht : Tie L T c a m b) :
    let e := mid + m - start
    let d := rot c start m e
    Srt T d a start ∧ Srt T d start mid ∧ Tie L T d a start mid ∧ Srt T d mid e ∧ Srt T d e b ∧ Tie L T d mid e b ∧ (∀ i j, a ≤ i → i < mid → mid ≤ j → j < b → T (d i) (d j)) ∧ Out c d a b ∧ Prm c d a b := by
  intro e d
  obtain ⟨ha, hm, he1, he2, hs, hl, hr⟩ := h
  have hmid : start + (e - m) = mid := by omega
  have dA : ∀ k, k < start → d k = c k := fun k hk => rot_out c hm he1 k (.inl hk)
  have dZ : ∀ k, e ≤ k → d k = c k := fun k hk => rot_out c hm he1 k (.inr hk)
  have dB : ∀ k, start ≤ k → k < mid → d k = c (k + (m - start)) := fun k h1 h2 => by
    have := rot_left c (s := start) (m := m) (e := e) (k := k - start) hm he1 (by omega)
    rw [show start + (k - start) = k by omega, show m + (k - start) = k + (m - start) by omega] at this
    exact this
  have dC : ∀ k, mid ≤ k → k < e → d k = c (k - (e - m)) := fun k h1 h2 => by
    have := rot_right c (s := start) (m := m) (e := e) (k := k - mid) hm he1 (by omega)
    rw [show start + (e - m) + (k - mid) = k by omega, show start + (k - mid) = k - (e - m) by omega] at this
    exact this
  refine ⟨?_, ?_, ?_, ?_, ?_, ?_, ?_, ?_, ?_⟩
  · intro i j hi hij hj
    rw [dA i (by omega), dA j (by omega)]; exact h1 i j hi hij (by omega)
  · intro i j hi hij hj
    rw [dB i hi (by omega), dB j (by omega) hj]; exact h2 _ _ (by omega) (by omega) (by omega)
  · intro i j hi hi2 hj hj2
    rw [dA i hi2, dB j hj hj2]; exact ht _ _ hi (by omega) (by omega) (by omega)
  · intro i j hi hij hj
    rw [dC i hi (by omega), dC j (by omega) hj]; exact h1 _ _ (by omega) (by omega) (by omega)
  · intro i j hi hij hj
    rw [dZ i hi, dZ j (by omega)]; exact h2 i j (by omega) hij hj
  · intro i j hi hi2 hj hj2
    rw [dC i hi hi2, dZ j hj]; exact ht _ _ (by omega) (by omega) (by omega) hj2
  · intro i j hi hi2 hj hj2
    by_cases c1 : i < start
    · rw [dA i c1]
      by_cases c2 : j < e
      · rw [dC j hj c2]; exact h1 _ _ hi (by omega) (by omega)
      · rw [dZ j (by omega)]; exact hl i j hi c1 (by omega) hj2
    · rw [dB i (by omega) hi2]
      by_cases c2 : j < e
      · rw [dC j hj c2]; exact hr _ _ (by omega) (by omega) (by omega) (by omega)
      · rw [dZ j (by omega)]; exact h2 _ _ (by omega) (by omega) hj2
  · exact (rot_out c hm he1).mono ha he2
  · exact (rot_prm c hm he1).mono (rot_out c hm he1) ha he2 (Nat.le_trans hm he1)
/-- The cut, from what the search has seen at its ends. -/
theorem cut_found {L : Nat → Nat → Bool} {T : Nat → Nat → Prop} {c : Nat → Nat} {a m b mid start lo hi : Nat} (htr : ∀ x y z, T x y → T y z → T x z) (h1 : Srt T c a m) (h2 : Srt T c m b) (ht : Tie L T c a m b)
    (ham : a ≤ m) (hmb : m ≤ b) (hmid : mid = (a + b) / 2) (hlo : lo = if mid < m then mid + m - b else a) (hhi : hi = if mid < m then mid else m) (hs1 : lo ≤ start) (hs2 : start ≤ hi)
    (hl : start = lo ∨ L (c (mid + m - 1 - (start - 1))) (c (start - 1)) = false) (hr : start = hi ∨ L (c (mid + m - 1 - start)) (c start) = true) : Cut L T c a m b mid start := by
  have hle : ∀ x y, a ≤ x → x ≤ y → y < m → c x = c y ∨ T (c x) (c y) := fun x y hx hxy hy => by
    by_cases e : x = y
    · exact .inl (by rw [e])
    · exact .inr (h1 x y hx (by omega) hy)
  have hle2 : ∀ x y, m ≤ x → x ≤ y → y < b → c x = c y ∨ T (c x) (c y) := fun x y hx hxy hy => by
    by_cases e : x = y
    · exact .inl (by rw [e])
    · exact .inr (h2 x y hx (by omega) hy)
  have hchain : ∀ x y z w, (x = y ∨ T x y) → T y z → (z = w ∨ T z w) → T x w := fun x y z w p q r => by
    have p1 : T x z := by rcases p with rfl | p; exact q; exact htr _ _ _ p q
    rcases r with rfl | r
    · exact p1
    · exact htr _ _ _ p1 r
  refine ⟨?_, ?_, ?_, ?_, ?_, ?_, ?_⟩
  · split at hlo <;> omega
  · split at hhi <;> omega
  · split at hhi <;> omega
  · split at hlo <;> omega
  · split at hhi <;> omega
  · intro i j hi1 hi2 hj1 hj2
    rcases hl with hl | hl
    · split at hlo <;> omega
    · by_cases hsl : start = lo
      · split at hlo <;> omega
      · have q1 : a ≤ start - 1 := by split at hlo <;> omega
        have q2 : start - 1 < m := by split at hhi <;> omega
        have q3 : m ≤ mid + m - 1 - (start - 1) := by split at hhi <;> omega
        have q4 : mid + m - 1 - (start - 1) < b := by split at hlo <;> omega
        have t := (ht (start - 1) (mid + m - 1 - (start - 1)) q1 q2 q3 q4).2 hl
        exact hchain _ _ _ _ (hle i (start - 1) hi1 (by omega) q2) t (hle2 _ j q3 (by omega) hj2)
  · intro i j hi1 hi2 hj1 hj2
    rcases hr with hr | hr
    · split at hhi <;> omega
    · by_cases hsl : start = hi
      · split at hhi <;> omega
      · have q1 : a ≤ start := by split at hlo <;> omega
        have q3 : m ≤ mid + m - 1 - start := by split at hhi <;> omega
        have q4 : mid + m - 1 - start < b := by split at hlo <;> omega
        have t := (ht start (mid + m - 1 - start) q1 (by omega) q3 q4).1 hr
        exact hchain _ _ _ _ (hle2 i _ hi1 (by omega) q4) t (hle start j q1 hj1 hj2)
/-- One moved behind those that are less. -/
theorem one_left {L : Nat → Nat → Bool} {T : Nat → Nat → Prop} {c : Nat → Nat} {a b i : Nat} (htr : ∀ x y z, T x y → T y z → T x z) (h2 : Srt T c (a + 1) b) (ht : Tie L T c a (a + 1) b) (hi1 : a + 1 ≤ i) (hi2 : i ≤ b)
    (hl : i = a + 1 ∨ L (c (i - 1)) (c a) = true) (hr : i = b ∨ L (c i) (c a) = false) : Srt T (rot c a (a + 1) i) a b ∧ Out c (rot c a (a + 1) i) a b ∧ Prm c (rot c a (a + 1) i) a b := by
  have o := rot_out c (show a ≤ a + 1 by omega) hi1
  refine ⟨?_, o.mono (Nat.le_refl _) hi2, (rot_prm c (show a ≤ a + 1 by omega) hi1).mono o (Nat.le_refl _) hi2 (by omega)⟩
  have dB : ∀ k, a ≤ k → k < i - 1 → rot c a (a + 1) i k = c (k + 1) := fun k h1 h2 => by unfold rot; rw [if_pos (by omega)]; congr 1; omega
  have dC : rot c a (a + 1) i (i - 1) = c a := by unfold rot; rw [if_neg (by omega), if_pos (by omega)]; congr 1; omega
  have dZ : ∀ k, i ≤ k → rot c a (a + 1) i k = c k := fun k h => o k (.inr h)
  have lowT : ∀ k, a + 1 ≤ k → k < i → T (c k) (c a) := fun k k1 k2 => by
    rcases hl with hl | hl
    · omega
    · have t := (ht a (i - 1) (Nat.le_refl _) (by omega) (by omega) (by omega)).1 hl
      by_cases e : k = i - 1
      · rw [e]; exact t
      · exact htr _ _ _ (h2 k (i - 1) k1 (by omega) (by omega)) t
  have hiT : ∀ k, i ≤ k → k < b → T (c a) (c k) := fun k k1 k2 => by
    rcases hr with hr | hr
    · omega
    · have t := (ht a i (Nat.le_refl _) (by omega) hi1 (by omega)).2 hr
      by_cases e : k = i
      · rw [e]; exact t
      · exact htr _ _ _ t (h2 i k hi1 (by omega) k2)
  intro x y hx hxy hy
  by_cases c1 : x < i - 1
  · rw [dB x hx c1]
    by_cases c2 : y < i - 1
    · rw [dB y (by omega) c2]; exact h2 _ _ (by omega) (by omega) (by omega)
    · by_cases c3 : y = i - 1
      · rw [c3, dC]; exact lowT _ (by omega) (by omega)
      · rw [dZ y (by omega)]; exact h2 _ _ (by omega) (by omega) hy
  · by_cases c2 : x = i - 1
    · rw [c2, dC, dZ y (by omega)]; exact hiT y (by omega) hy
    · rw [dZ x (by omega), dZ y (by omega)]; exact h2 _ _ (by omega) hxy hy
/-- One moved ahead of those that are greater. -/
theorem one_right {L : Nat → Nat → Bool} {T : Nat → Nat → Prop} {c : Nat → Nat} {a m i : Nat} (htr : ∀ x y z, T x y → T y z → T x z) (h1 : Srt T c a m) (ht : Tie L T c a m (m + 1)) (hi1 : a ≤ i) (hi2 : i ≤ m)
    (hl : i = a ∨ L (c m) (c (i - 1)) = false) (hr : i = m ∨ L (c m) (c i) = true) : Srt T (rot c i m (m + 1)) a (m + 1) ∧ Out c (rot c i m (m + 1)) a (m + 1) ∧ Prm c (rot c i m (m + 1)) a (m + 1) := by
  have o := rot_out c hi2 (show m ≤ m + 1 by omega)
  refine ⟨?_, o.mono hi1 (Nat.le_refl _), (rot_prm c hi2 (show m ≤ m + 1 by omega)).mono o hi1 (Nat.le_refl _) (by omega)⟩
  have dA : ∀ k, k < i → rot c i m (m + 1) k = c k := fun k h => o k (.inl h)
  have dB : rot c i m (m + 1) i = c m := by unfold rot; rw [if_pos (by omega)]; congr 1; omega
  have dC : ∀ k, i < k → k ≤ m → rot c i m (m + 1) k = c (k - 1) := fun k h1 h2 => by unfold rot; rw [if_neg (by omega), if_pos (by omega)]; congr 1; omega
  have lowT : ∀ k, a ≤ k → k < i → T (c k) (c m) := fun k k1 k2 => by
    rcases hl with hl | hl
    · omega
    · have t := (ht (i - 1) m (by omega) (by omega) (Nat.le_refl _) (by omega)).2 hl
      by_cases e : k = i - 1
      · rw [e]; exact t
      · exact htr _ _ _ (h1 k (i - 1) k1 (by omega) (by omega)) t
  have hiT : ∀ k, i ≤ k → k < m → T (c m) (c k) := fun k k1 k2 => by
    rcases hr with hr | hr
    · omega
    · have t := (ht i m hi1 (by omega) (Nat.le_refl _) (by omega)).1 hr
      by_cases e : k = i
      · rw [e]; exact t
      · exact htr _ _ _ t (h1 i k hi1 (by omega) k2)
  intro x y hx hxy hy
  by_cases c1 : x < i
  · rw [dA x c1]
    by_cases c2 : y < i
    · rw [dA y c2]; exact h1 _ _ hx hxy (by omega)
    · by_cases c3 : y = i
      · rw [c3, dB]; exact lowT x hx c1
      · rw [dC y (by omega) (by omega)]; exact h1 _ _ hx (by omega) (by omega)
  · by_cases c2 : x = i
    · rw [c2, dB, dC y (by omega) (by omega)]; exact hiT _ (by omega) (by omega)
    · rw [dC x (by omega) (by omega), dC y (by omega) (by omega)]; exact h1 _ _ (by omega) (by omega) (by omega)
/-- Two sorted pieces, all of the first one less: sorted. -/
theorem Srt.join {T : Nat → Nat → Prop} {c : Nat → Nat} {a m b : Nat} (h1 : Srt T c a m) (h2 : Srt T c m b) (h : ∀ i j, a ≤ i → i < m → m ≤ j → j < b → T (c i) (c j)) : Srt T c a b := fun i j hi hij hj => by
  by_cases c1 : j < m
  · exact h1 i j hi hij c1
  · by_cases c2 : i < m
    · exact h i j hi c2 (by omega) hj
    · exact h2 i j (by omega) hij hj
/-- The halves sorted apart, each by itself. -/
theorem halves {T : Nat → Nat → Prop} {d f g : Nat → Nat} {a mid b : Nat} (ham : a ≤ mid) (hmb : mid ≤ b) (hc : ∀ i j, a ≤ i → i < mid → mid ≤ j → j < b → T (d i) (d j)) (s1 : Srt T f a mid) (o1 : Out d f a mid) (p1 : Prm d f a mid)
    (s2 : Srt T g mid b) (o2 : Out f g mid b) (p2 : Prm f g mid b) : Srt T g a b ∧ Out d g a b ∧ Prm d g a b := by
  refine ⟨?_, ?_, ?_⟩
  · refine Srt.join (s1.congr fun k _ hk => o2 k (.inl hk)) s2 ?_
    intro i j hi hi2 hj hj2
    rw [o2 i (.inl hi2)]
    obtain ⟨k, k1, k2, k3⟩ := p1.mem hi hi2
    obtain ⟨l, l1, l2, l3⟩ := p2.mem hj hj2
    rw [k3, l3, o1 l (.inr l1)]
    exact hc k l k1 k2 l1 l2
  · exact (o1.mono (Nat.le_refl _) hmb).trans (o2.mono ham (Nat.le_refl _))
  · exact (p1.mono o1 (Nat.le_refl _) hmb ham).trans (p2.mono o2 ham (Nat.le_refl _) hmb)
/-- Sorted within each block of B, as far as a. -/
def Blk (T : Nat → Nat → Prop) (B a : Nat) (c : Nat → Nat) : Prop := ∀ i j, i < j → j < a → i / B = j / B → T (c i) (c j)
/-- What stands in a block stood in it from the first. -/
def Stay (c0 : Nat → Nat) (B n : Nat) (c : Nat → Nat) : Prop := ∀ i, i < n → ∃ k, k < n ∧ k / B = i / B ∧ c i = c0 k
theorem div_block {B q i : Nat} (h1 : B * q ≤ i) (h2 : i < B * q + B) : i / B = q := by
  have hB : 0 < B := by omega
  apply Nat.div_eq_of_lt_le
  · rw [Nat.mul_comm]; exact h1
  · rw [Nat.add_mul, Nat.one_mul, Nat.mul_comm q]; exact h2
theorem blk_step {T : Nat → Nat → Prop} {c0 c d : Nat → Nat} {B q a b n : Nat} (hB : 0 < B) (ha : a = B * q) (hab : a ≤ b) (hb : b ≤ a + B) (hg : Blk T B a c) (hs : Srt T d a b) (ho : Out c d a b) : Blk T B b d := by
  intro i j hij hj he
  by_cases c1 : j < a
  · rw [ho i (.inl (by omega)), ho j (.inl c1)]; exact hg i j hij c1 he
  · have hjq : j / B = q := div_block (by omega) (by omega)
    by_cases c2 : i < a
    · exfalso
      have : i / B < q := by rw [Nat.div_lt_iff_lt_mul hB, Nat.mul_comm, ← ha]; exact c2
      omega
    · exact hs i j (by omega) hij hj
theorem stay_step {c0 c d : Nat → Nat} {B q a b n : Nat} (ha : a = B * q) (hb : b ≤ a + B) (hbn : b ≤ n) (hp : Prm c d a b) (ho : Out c d a b) (hs : Stay c0 B n c) : Stay c0 B n d := by
  intro i hi
  by_cases c1 : a ≤ i ∧ i < b
  · obtain ⟨k, k1, k2, k3⟩ := hp.mem c1.1 c1.2
    obtain ⟨l, l1, l2, l3⟩ := hs k (by omega)
    refine ⟨l, l1, ?_, by rw [k3, l3]⟩
    rw [l2, div_block (q := q) (i := k) (by omega) (by omega), div_block (q := q) (i := i) (by omega) (by omega)]
  · rw [ho i (by omega)]; exact hs i hi
theorem stay_coarse {c0 c : Nat → Nat} {B n : Nat} (hs : Stay c0 B n c) : Stay c0 (2 * B) n c := fun i hi => by
  obtain ⟨k, k1, k2, k3⟩ := hs i hi
  refine ⟨k, k1, ?_, k3⟩
  rw [Nat.mul_comm, ← Nat.div_div_eq_div_mul, ← Nat.div_div_eq_div_mul, k2]
theorem stay_self (c : Nat → Nat) (B n : Nat) : Stay c B n c := fun i hi => ⟨i, hi, rfl, rfl⟩
/-- The two pieces of a pair of blocks: each sorted, and what they are asked of each other. -/
theorem pair_ok {L : Nat → Nat → Bool} {T : Nat → Nat → Prop} {c0 c d : Nat → Nat} {B q a m b n : Nat} (hB : 0 < B) (ha : a = 2 * B * q) (hm : m = a + B) (hb : b ≤ a + 2 * B) (hmb : m ≤ b) (hbn : b ≤ n) (hg : Blk T B n c) (hs : Stay c0 B n c) (hd : ∀ k, a ≤ k → d k = c k)
    (h0 : ∀ x y, x < y → y < n → (L (c0 y) (c0 x) = true → T (c0 y) (c0 x)) ∧ (L (c0 y) (c0 x) = false → T (c0 x) (c0 y))) : Srt T d a m ∧ Srt T d m b ∧ Tie L T d a m b := by
  have e1 : 2 * B * q = B * (2 * q) := by rw [Nat.mul_comm 2 B, Nat.mul_assoc]
  have e2 : B * (2 * q + 1) = B * (2 * q) + B := by rw [Nat.mul_add, Nat.mul_one]
  have d1 : ∀ i, a ≤ i → i < m → i / B = 2 * q := fun i h1 h2 => div_block (by omega) (by omega)
  have d2 : ∀ i, m ≤ i → i < b → i / B = 2 * q + 1 := fun i h1 h2 => div_block (by omega) (by omega)
  refine ⟨?_, ?_, ?_⟩
  · intro i j hi hij hj
    rw [hd i hi, hd j (by omega)]
    exact hg i j hij (by omega) (by rw [d1 i hi (by omega), d1 j (by omega) hj])
  · intro i j hi hij hj
    rw [hd i (by omega), hd j (by omega)]
    exact hg i j hij (by omega) (by rw [d2 i hi (by omega), d2 j (by omega) hj])
  · intro i j hi hi2 hj hj2
    rw [hd i hi, hd j (by omega)]
    obtain ⟨k, k1, k2, k3⟩ := hs i (by omega)
    obtain ⟨l, l1, l2, l3⟩ := hs j (by omega)
    rw [k3, l3]
    refine h0 k l ?_ l1
    rw [d1 i hi hi2] at k2
    rw [d2 j hj hj2] at l2
    apply Nat.lt_of_not_le
    intro hlk
    have := Nat.div_le_div_right (c := B) hlk
    omega
/-- A pair of which only a first piece is there. -/
theorem pair_lone {T : Nat → Nat → Prop} {c d : Nat → Nat} {B q a n : Nat} (hB : 0 < B) (ha : a = 2 * B * q) (han : a ≤ n) (hn : n ≤ a + B) (hg : Blk T B n c) (hd : ∀ k, a ≤ k → d k = c k) (h : Blk T (2 * B) a d) : Blk T (2 * B) n d := by
  refine blk_step (c0 := c) (c := d) (n := n) (by omega) ha han (by omega) h ?_ (Out.refl _ _ _)
  have e1 : 2 * B * q = B * (2 * q) := by rw [Nat.mul_comm 2 B, Nat.mul_assoc]
  intro i j hi hij hj
  rw [hd i hi, hd j (by omega)]
  exact hg i j hij hj (by rw [div_block (q := 2 * q) (i := i) (by omega) (by omega), div_block (q := 2 * q) (i := j) (by omega) (by omega)])
theorem blk_all {T : Nat → Nat → Prop} {c : Nat → Nat} {B n : Nat} (h : n ≤ B) (hg : Blk T B n c) : Srt T c 0 n := fun i j _ hij hj => hg i j hij hj (by rw [Nat.div_eq_of_lt (by omega), Nat.div_eq_of_lt (by omega)])
end Go.Stab
/-
  A region that draws its order, without guards, walked once in the order of the text, in which a store may come ahead of some operations ('late': those that don't mind); all others are asked for worlds ahead of the store alone
-/
namespace Go.K
set_option linter.unusedVariables false
set_option linter.unusedSimpArgs false

section
variable {P : Program} {ops : Array Oper} {F : Bool → World → Prop} {mk late : Oper → Bool} {Q : Exit → Act → World → Prop}
/-- What one operation does from a frame, and what is asked behind it. -/
def markOne (P : Program) (ops : Array Oper) (F : Bool → World → Prop) (mk late : Oper → Bool) (o : Oper) (a : Act) (K : Act → Prop) : Prop :=
  Region.wanted o (yielded ops a.tmps) = true ∧ ∃ v, (∀ b w, (b = true → late o = true) → F b w → InvRun P (F (b || mk o)) v ((execOp a.eval o).run P w)) ∧ K (a.put o.dst v)
/-- Operations, one behind the other, from a frame. -/
def wpMark (P : Program) (ops : Array Oper) (F : Bool → World → Prop) (mk late : Oper → Bool) (T : Act → Prop) : List Oper → Act → Prop
  | [], a => T a
  | o :: rest, a => markOne P ops F mk late o a (wpMark P ops F mk late T rest)
variable {T : Act → Prop}
theorem wpMark_nil {a : Act} (h : T a) : wpMark P ops F mk late T [] a := h
theorem wpMark_cons {o : Oper} {rest : List Oper} {a : Act} (v : Value) (hw : Region.wanted o (yielded ops a.tmps) = true) (h : ∀ b w, (b = true → late o = true) → F b w → InvRun P (F (b || mk o)) v ((execOp a.eval o).run P w))
    (hk : wpMark P ops F mk late T rest (a.put o.dst v)) : wpMark P ops F mk late T (o :: rest) a := ⟨hw, v, h, hk⟩
theorem markOne_mono {o : Oper} {a : Act} {K K' : Act → Prop} (h : ∀ a, K a → K' a) (hh : markOne P ops F mk late o a K) : markOne P ops F mk late o a K' := by
  obtain ⟨h1, v, h2, h3⟩ := hh
  exact ⟨h1, v, h2, h _ h3⟩
/-- Two operations that are apart change places. -/
theorem markOne_swap {o p : Oper} (hap : o.apart ops p = true) (hso : ∀ cs b, o.op ≠ .select cs b) (hsp : ∀ cs b, p.op ≠ .select cs b) {a : Act} {K : Act → Prop}
    (h : markOne P ops F mk late p a (fun a' => markOne P ops F mk late o a' K)) : markOne P ops F mk late o a (fun a' => markOne P ops F mk late p a' K) := by
  obtain ⟨h1, h2, h3⟩ := Oper.apart_spec hap
  have keyO : ∀ u, execOp (a.put p.dst u).eval o = execOp a.eval o := fun u => execOp_put o hso a p.dst u h3
  have keyP : ∀ u, execOp (a.put o.dst u).eval p = execOp a.eval p := fun u => execOp_put p hsp a o.dst u h1
  have wO : ∀ u, Region.wanted o (yielded ops (a.put p.dst u).tmps) = Region.wanted o (yielded ops a.tmps) := fun u => wanted_put o a p.dst u h3
  have wP : ∀ u, Region.wanted p (yielded ops (a.put o.dst u).tmps) = Region.wanted p (yielded ops a.tmps) := fun u => wanted_put p a o.dst u h1
  obtain ⟨hp, u, hu, hw, v, hv, hk⟩ := h
  rw [wO] at hw
  refine ⟨hw, v, fun b w hl hc => by have := hv b w hl hc; rwa [keyO] at this, by rw [wP]; exact hp, u, fun b w hl hc => by rw [keyP]; exact hu b w hl hc, ?_⟩
  rw [Act.put_comm a v u h2]; exact hk
theorem wpMark_take {o : Oper} (hso : ∀ cs b, o.op ≠ .select cs b) {post : List Oper} : ∀ (pre : List Oper), (∀ p ∈ pre, o.apart ops p = true ∧ ∀ cs b, p.op ≠ .select cs b) →
    ∀ a, wpMark P ops F mk late T (pre ++ o :: post) a → markOne P ops F mk late o a (wpMark P ops F mk late T (pre ++ post))
  | [], _, _, h => h
  | p :: pre, hp, a, h => by
    have h' : markOne P ops F mk late p a (wpMark P ops F mk late T (pre ++ o :: post)) := h
    have h2 := markOne_mono (K' := fun a' => markOne P ops F mk late o a' (wpMark P ops F mk late T (pre ++ post))) (fun a' h3 => wpMark_take hso pre (fun q hq => hp q (List.mem_cons_of_mem _ hq)) a' h3) h'
    exact markOne_swap (hp p (List.mem_cons_self ..)).1 hso (hp p (List.mem_cons_self ..)).2 h2
theorem markOne_wp {i : Nat} {o : Oper} (ho : ops[i]? = some o) {a : Act} {w : World} {K : Act → Prop} {K' : Act → World → Prop} {b : Bool} (hl : b = true → late o = true) (hw : F b w) (hk : ∀ a w, F (b || mk o) w → K a → K' a w) (h : markOne P ops F mk late o a K) : wpOp P ops Q i K' a w := by
  unfold wpOp
  rw [ho]
  dsimp only
  obtain ⟨h1, v, h2, h3⟩ := h
  rw [if_pos h1]
  left
  have h4 := h2 b w hl hw
  unfold Oper.wp
  generalize (execOp a.eval o).run P w = r at h4
  cases r with
  | ok n w' =>
    cases n <;> simp only [InvRun] at h4 <;> simp only [Oper.upon]
    case value u =>
      obtain ⟨hc, rfl⟩ := h4
      exact hk _ _ hc h3
    case skip =>
      obtain ⟨hc, rfl⟩ := h4
      exact hk _ _ hc h3
    case enter f args =>
      exact h4.mono fun e w'' ⟨he, hc⟩ => by subst he; exact hk _ _ hc h3
  | halt x w' => simp only [InvRun] at h4
variable {m : Nat}
/-- The store waits on every operation ahead of the tail that is not late. -/
def markB (ops : Array Oper) (m : Nat) (mk late : Oper → Bool) : Bool := (List.range ops.size).all fun i => match ops[i]? with
  | none => true
  | some o => !mk o || (List.range m).all fun j => j == i || (match ops[j]? with | none => true | some p => late p || waitsOn o j)
theorem markB_spec {ops : Array Oper} {m : Nat} {mk late : Oper → Bool} (h : markB ops m mk late = true) {i : Nat} {o : Oper} (ho : ops[i]? = some o) (hmk : mk o = true) {j : Nat} (hj : j < m) (hji : j ≠ i) {p : Oper} (hp : ops[j]? = some p) (hl : late p = false) : waitsOn o j = true := by
  unfold markB at h
  have h1 := List.all_eq_true.1 h i (List.mem_range.2 (Array.getElem?_eq_some_iff.1 ho).1)
  rw [ho] at h1
  dsimp only at h1
  rw [hmk, Bool.not_true, Bool.false_or] at h1
  have h2 := List.all_eq_true.1 h1 j (List.mem_range.2 hj)
  rw [hp] at h2
  dsimp only at h2
  rw [hl, Bool.false_or] at h2
  rcases Bool.or_eq_true_iff.1 h2 with h3 | h3
  · exact absurd (by simpa using h3) hji
  · exact h3
theorem any_mark (c : Bool) (hB : regB ops m = true) (hL : markB ops m mk late = true) (hT : ∀ a w, F c w → T a → wpOps P ops Q (List.range' m (ops.size - m)) a w) : ∀ (n fuel : Nat) (listed : Array Bool) (a : Act) (w : World) (b : Bool), F b w → (b = true → ∀ j ∈ unH ops listed m, ∀ p, ops[j]? = some p → late p = true) → (b || (opsAt ops (unH ops listed m)).any mk) = c → (unH ops listed m).length = n →
    listed.size = ops.size → (∀ j, m ≤ j → j < ops.size → listed.getD j true = false) → wpMark P ops F mk late T (opsAt ops (unH ops listed m)) a → n + (ops.size - m) ≤ fuel → wpAny P .any ops Q fuel listed a w := by
  obtain ⟨hns, hm, hdn, hap⟩ := regB_spec hB
  intro n
  induction n with
  | zero =>
    intro fuel listed a w b hc hbl hbc hn hsz htl h hf
    have hnil : unH ops listed m = [] := List.eq_nil_of_length_eq_zero hn
    rw [hnil] at h hbc
    have hbc' : b = c := by simpa [opsAt] using hbc
    subst hbc'
    refine any_tail hB (ops.size - m) m fuel listed a w (Nat.le_refl _) (by omega) hsz (fun j hj => ?_) (hT a w hc h) (by omega)
    rcases Nat.lt_or_ge j m with h1 | h1
    · have : j ∉ unH ops listed m := by rw [hnil]; exact List.not_mem_nil
      rw [mem_unH] at this
      simp [h1] at this
      have hj' : j < listed.size := by omega
      simp [hj'] at this ⊢
      rw [this]; simp [h1]
    · rw [htl j h1 hj]; simp; omega
  | succ n ih =>
    intro fuel listed a w b hc hbl hbc hn hsz htl h hf
    have hgd : ∀ j, j < ops.size → listed.getD j true = false → listed.getD j false = false := by
      intro j hj h1
      have hj' : j < listed.size := by omega
      simp [hj'] at h1 ⊢; exact h1
    have hgt : ∀ j, j < ops.size → listed.getD j false = false → listed.getD j true = false := by
      intro j hj h1
      have hj' : j < listed.size := by omega
      simp [hj'] at h1 ⊢; exact h1
    cases fuel with
    | zero => omega
    | succ fuel =>
      refine ⟨fun h0 => ?_, fun i hi => ?_⟩
      · exfalso
        cases hu : unH ops listed m with
        | nil => rw [hu] at hn; cases hn
        | cons i rest =>
          have hs := unH_sorted (ops := ops) listed m
          have hmem := mem_unH.1 (show i ∈ unH ops listed m by rw [hu]; exact List.mem_cons_self ..)
          have hin : i < ops.size := by omega
          have : i ∈ Region.ready .any ops listed := by
            refine mem_ready.2 ⟨hmem.2, ops[i], Array.getElem?_eq_getElem hin, fun e he hb => ?_⟩
            have hlt := hdn i _ (Array.getElem?_eq_getElem hin) e he hb
            cases hx : listed.getD e.on false
            · exfalso
              have hm2 : e.on ∈ unH ops listed m := mem_unH.2 ⟨by omega, hgt _ (by omega) hx⟩
              rw [hu] at hm2 hs
              rcases List.mem_cons.1 hm2 with h1 | h1
              · omega
              · have := (List.pairwise_cons.1 hs).1 _ h1; omega
            · rfl
          rw [h0] at this; cases this
      · obtain ⟨h0, o, ho, hall⟩ := mem_ready.1 hi
        have hin := (Array.getElem?_eq_some_iff.1 ho).1
        have him : i < m := by
          rcases Nat.lt_or_ge i m with h1 | h1
          · exact h1
          · exfalso
            cases hu : unH ops listed m with
            | nil => rw [hu] at hn; cases hn
            | cons j rest =>
              have hmem := mem_unH.1 (show j ∈ unH ops listed m by rw [hu]; exact List.mem_cons_self ..)
              have hjn : j < ops.size := by omega
              rcases hap i o ho j ops[j] (by omega) (Array.getElem?_eq_getElem hjn) with h2 | ⟨h2, _⟩
              · have := waits_listed h2 hall
                rw [hgd j hjn hmem.2] at this; cases this
              · omega
        obtain ⟨pre, post, he, hpre, hset⟩ := unH_split (ops := ops) (mem_unH.2 ⟨him, h0⟩)
        have hsel : ∀ (j : Nat) (p : Oper), ops[j]? = some p → ∀ cs b, p.op ≠ .select cs b := fun j p hp cs b => Region.noSelect_spec hns j p cs b hp
        rw [he, opsAt_append, opsAt_cons _ ho] at h hbc
        have h2 := wpMark_take (hsel i o ho) (opsAt ops pre) (fun p hp => by
          obtain ⟨j, hj, hjp⟩ := List.mem_filterMap.1 hp
          have hjp' : ops[j]? = some p := hjp
          refine ⟨?_, hsel j p hjp'⟩
          rcases hap i o ho j p (hpre j hj) hjp' with h3 | ⟨_, h3⟩
          · exfalso
            have := waits_listed h3 hall
            have hju : j ∈ unH ops listed m := by rw [he]; exact List.mem_append_left _ hj
            rw [hgd j (Array.getElem?_eq_some_iff.1 hjp').1 (mem_unH.1 hju).2] at this; cases this
          · exact h3) a h
        rw [← opsAt_append, ← hset] at h2
        refine markOne_wp ho (fun hb => hbl hb i (by rw [he]; simp) o ho) hc (fun a' w' hc' h' => ih fuel _ a' w' (b || mk o) hc' (fun hb j hj p hp => ?_) ?_ ?_ (by simpa using hsz) (fun j h1 h2 => ?_) h' (by omega)) h2
        · rw [hset] at hj
          have hju : j ∈ unH ops listed m := by
            rw [he]
            rcases List.mem_append.1 hj with h | h
            · exact List.mem_append_left _ h
            · exact List.mem_append_right _ (List.mem_cons_of_mem _ h)
          cases hbb : b
          · rw [hbb] at hb
            have hmk : mk o = true := by simpa using hb
            cases hlp : late p
            · exfalso
              have hji : j ≠ i := by
                intro e
                have hnd := unH_sorted (ops := ops) listed m
                rw [he] at hnd
                rw [e] at hj
                have h5 := List.pairwise_append.1 hnd
                rcases List.mem_append.1 hj with h | h
                · have := h5.2.2 i h i (List.mem_cons_self ..); omega
                · have := (List.pairwise_cons.1 h5.2.1).1 i h; omega
              have h6 := waits_listed (markB_spec hL ho hmk (mem_unH.1 hju).1 hji hp hlp) hall
              rw [hgd j (Array.getElem?_eq_some_iff.1 hp).1 (mem_unH.1 hju).2] at h6; cases h6
            · rfl
          · exact hbl hbb j hju p hp
        · rw [hset, opsAt_append, ← hbc]
          simp only [List.any_append, List.any_cons]
          cases b <;> cases mk o <;> simp
        · rw [hset]; rw [he] at hn; simp at hn ⊢; omega
        · rw [getD_set_ne true (by omega)]; exact htl j h1 h2
end
/-- THE LAW. 'm': where the tail begins; F false: the worlds ahead of the store, F true: behind it. -/
theorem wp_region_mark {P : Program} {id : Nat} {l : List Oper} {Q : Exit → Act → World → Prop} {a : Act} {w : World} (m : Nat) (F : Bool → World → Prop) (mk late : Oper → Bool) (hm : P.follows .mixedOrders = true) (hB : regB l.toArray m = true) (hL : markB l.toArray m mk late = true)
    (hmk : (l.take m).any mk = true) (hC : ∀ n, F false { w with drawn := n }) (h : wpMark P l.toArray F mk late (fun a => ∀ w, F true w → wpList P l.toArray Q (l.drop m) a w) (l.take m) a) : (Code.region id l.toArray true).wp P Q a w := by
  have hml : m ≤ l.length := by simpa using (regB_spec hB).2.1
  have hu : unH l.toArray (Array.replicate l.toArray.size false) m = List.range m := by
    unfold unH
    refine List.filter_eq_self.2 fun i hi => ?_
    have : i < l.length := by have := List.mem_range.1 hi; omega
    simp [this]
  have hop : opsAt l.toArray (List.range m) = l.take m := by
    clear h hu hB hC hmk hL
    unfold opsAt
    induction m with
    | zero => simp
    | succ k ih =>
      rw [List.range_succ, List.filterMap_append, ih (by omega), List.take_succ_eq_append_getElem (by omega)]
      simp [show k < l.length by omega]
  refine wp_region_any hm (any_mark (mk := mk) (late := late) (T := fun a => ∀ w, F true w → wpList P l.toArray Q (l.drop m) a w) true hB hL (fun a w hc ht => ?_) _ _ _ _ _ false (hC _) (fun h => Bool.noConfusion h) ?_ rfl (by simp) (fun j _ hj => ?_) ?_ ?_)
  · have he := wpOps_eq_wpList (P := P) (Q := Q) (ops := l.toArray) (l.drop m) m (fun j => by simp [List.getElem?_drop])
    have h1 := ht w hc
    rw [← he] at h1
    simpa using h1
  · rw [hu, hop, hmk]; rfl
  · have : j < l.length := by simpa using hj
    simp [this]
  · rw [hu, hop]; exact h
  · have : (unH l.toArray (Array.replicate l.toArray.size false) m).length ≤ m := by
      unfold unH; exact Nat.le_trans (List.length_filter_le _ _) (by simp)
    simp at *; omega
end Go.K
