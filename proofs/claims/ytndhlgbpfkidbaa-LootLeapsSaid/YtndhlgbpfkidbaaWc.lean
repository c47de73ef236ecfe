/-
  Layer 6: a script of two dice.
-/
import Derived.Test.YtndhlgbpfkidbaaWb
import Derived.Deep.Slices
import Derived.Deep.DeepCutAuto
import Derived.Deep.CutBlock
import Derived.Deep.RegionHeld3
namespace Go.Proofs.Ytndhlgbpfkidbaa
open Go.RowKit Go.K Go.Dice
set_option linter.unusedVariables false
set_option linter.unusedSimpArgs false

/-- Two dice on each side: the document's (S, A) in one row, the program's (T, B), each behind its pointer. -/
structure DI (w : World) (p m : Nat) (g : Nat → Nat) (S A T B : Nat → BitVec 64) (W : World) : Prop where
  bel : Below w.heap.size w W
  hp : W.heap[p]? = some (.cells #[.pointer (some ⟨g 0, 0, none⟩), .pointer (some ⟨g 1, 0, none⟩)] 26)
  hm : W.heap[m]? = some (.cells #[.int .u64 (U64 (S 0)), .int .u64 (U64 (A 0)), .int .u64 (U64 (S 1)), .int .u64 (U64 (A 1))] 30)
  hg : ∀ c, c < 2 → W.heap[g c]? = some (.cells (dRow (T c) (B c)) 85)
  odd : ∀ c, c < 2 → (A c).getLsbD 0 = true
  p0 : w.heap.size ≤ p
  m0 : w.heap.size ≤ m
  g0 : ∀ c, c < 2 → w.heap.size ≤ g c
  pm : p ≠ m
  gg : g 0 ≠ g 1
  gp : ∀ c, c < 2 → g c ≠ p
  gm : ∀ c, c < 2 → g c ≠ m
variable {w W W' : World} {p m : Nat} {g : Nat → Nat} {S A T B : Nat → BitVec 64}
theorem lt2 {c : Nat} (h : c < 2) : c = 0 ∨ c = 1 := by omega
theorem DI.away (h : DI w p m g S A T B W) {r : Option Nat} (hr : W.grownBy W' r)
    (h1 : ∀ k, r = some k → w.heap.size ≤ k ∧ k ≠ p ∧ k ≠ m ∧ k ≠ g 0 ∧ k ≠ g 1) : DI w p m g S A T B W' := by
  have key : ∀ k o, (k = p ∨ k = m ∨ k = g 0 ∨ k = g 1) → W.heap[k]? = some o → W'.heap[k]? = some o := fun k o hk ho =>
    (hr.block k (lt_row ho) (fun e => by have := h1 k e.symm; omega)).trans ho
  refine ⟨h.bel.grown hr h.bel.size (fun k hk => (h1 k hk).1), key _ _ (.inl rfl) h.hp, key _ _ (.inr (.inl rfl)) h.hm, fun c hc => ?_, h.odd, h.p0, h.m0, h.g0, h.pm, h.gg, h.gp, h.gm⟩
  refine key _ _ ?_ (h.hg c hc)
  rcases lt2 hc with rfl | rfl
  · exact .inr (.inr (.inl rfl))
  · exact .inr (.inr (.inr rfl))
theorem DI.kept (h : DI w p m g S A T B W) (hb : Below W.heap.size W W') : DI w p m g S A T B W' :=
  h.away (grown_below hb Option.none) (fun k hk => by cases hk)
theorem DI.cp (h : DI w p m g S A T B W) (c : Nat) (hc : c < 2) : W.cell? ⟨p, c, none⟩ = some (.pointer (some ⟨g c, 0, none⟩)) := by
  rw [cell_of_row _ _ _ _ _ _ h.hp]
  rcases lt2 hc with rfl | rfl <;> rfl
theorem DI.cs (h : DI w p m g S A T B W) (c : Nat) (hc : c < 2) : W.cell? ⟨m, c * 2, none⟩ = some (.int .u64 (U64 (S c))) := by
  rw [cell_of_row _ _ _ _ _ _ h.hm]
  rcases lt2 hc with rfl | rfl <;> rfl
theorem DI.ca (h : DI w p m g S A T B W) (c : Nat) (hc : c < 2) : W.cell? ⟨m, c * 2 + 1, none⟩ = some (.int .u64 (U64 (A c))) := by
  rw [cell_of_row _ _ _ _ _ _ h.hm]
  rcases lt2 hc with rfl | rfl <;> rfl
def upd {α : Type} (f : Nat → α) (c : Nat) (v : α) : Nat → α := fun i => if i = c then v else f i
theorem upd_same {α : Type} (f : Nat → α) (c : Nat) (v : α) : upd f c v c = v := by simp [upd]
theorem DI.setM (h : DI w p m g S A T B W) (c : Nat) (hc : c < 2) (s a : BitVec 64) (ha : a.getLsbD 0 = true) :
    DI w p m g (upd S c s) (upd A c a) T B ((W.setCell ⟨m, c * 2, none⟩ (.int .u64 (U64 s))).setCell ⟨m, c * 2 + 1, none⟩ (.int .u64 (U64 a))) := by
  have key : ∀ k o, k ≠ m → W.heap[k]? = some o → ((W.setCell ⟨m, c * 2, none⟩ (.int .u64 (U64 s))).setCell ⟨m, c * 2 + 1, none⟩ (.int .u64 (U64 a))).heap[k]? = some o := fun k o hk ho => by
    rw [heap_setCell_other _ _ _ _ hk, heap_setCell_other _ _ _ _ hk]; exact ho
  refine ⟨(h.bel.setCell h.m0 _).setCell h.m0 _, key _ _ h.pm h.hp, ?_, fun i hi => key _ _ (h.gm i hi) (h.hg i hi), fun i hi => ?_, h.p0, h.m0, h.g0, h.pm, h.gg, h.gp, h.gm⟩
  · rw [heap_setCell_same _ _ _ _ _ _ (heap_setCell_same _ _ _ _ _ _ h.hm)]
    rcases lt2 hc with rfl | rfl <;> rfl
  · unfold upd
    by_cases e : i = c
    · rw [if_pos e]; exact ha
    · rw [if_neg e]; exact h.odd i hi
theorem DI.setG (h : DI w p m g S A T B W) (c : Nat) (hc : c < 2) {s a : BitVec 64} (hr : W.grownBy W' (some (g c))) (hrow : W'.heap[g c]? = some (.cells (dRow s a) 85)) :
    DI w p m g S A (upd T c s) (upd B c a) W' := by
  have key : ∀ k o, k ≠ g c → W.heap[k]? = some o → W'.heap[k]? = some o := fun k o hk ho =>
    (hr.block k (lt_row ho) (fun e => by injection e with e; exact hk e)).trans ho
  refine ⟨h.bel.grown hr h.bel.size (fun k hk => by injection hk with hk; rw [← hk]; exact h.g0 c hc), key _ _ (fun e => h.gp c hc e.symm) h.hp, key _ _ (fun e => h.gm c hc e.symm) h.hm, fun i hi => ?_, h.odd, h.p0, h.m0, h.g0, h.pm, h.gg, h.gp, h.gm⟩
  unfold upd
  by_cases e : i = c
  · rw [if_pos e, if_pos e, e]; exact hrow
  · rw [if_neg e, if_neg e]
    refine key _ _ ?_ (h.hg i hi)
    have := h.gg
    rcases lt2 hc with rfl | rfl <;> rcases lt2 hi with rfl | rfl <;> first | exact absurd rfl e | exact this | exact fun e => this e.symm
theorem DI.setP (h : DI w p m g S A T B W) (c : Nat) (hc : c < 2) {q : Nat} {s a : BitVec 64} (hq : w.heap.size ≤ q) (hqp : q ≠ p) (hqm : q ≠ m) (hq0 : q ≠ g 0) (hq1 : q ≠ g 1) (hrow : W.heap[q]? = some (.cells (dRow s a) 85)) :
    DI w p m (upd g c q) S A (upd T c s) (upd B c a) (W.setCell ⟨p, c, none⟩ (.pointer (some ⟨q, 0, none⟩))) := by
  have key : ∀ k o, k ≠ p → W.heap[k]? = some o → (W.setCell ⟨p, c, none⟩ (.pointer (some ⟨q, 0, none⟩))).heap[k]? = some o := fun k o hk ho => by
    rw [heap_setCell_other _ _ _ _ hk]; exact ho
  have hu : ∀ i, i < 2 → upd g c q i = q ∧ i = c ∨ upd g c q i = g i ∧ i ≠ c := fun i hi => by
    unfold upd
    by_cases e : i = c
    · left; rw [if_pos e]; exact ⟨rfl, e⟩
    · right; rw [if_neg e]; exact ⟨rfl, e⟩
  refine ⟨h.bel.setCell h.p0 _, ?_, key _ _ (fun e => h.pm e.symm) h.hm, fun i hi => ?_, h.odd, h.p0, h.m0, fun i hi => ?_, h.pm, ?_, fun i hi => ?_, fun i hi => ?_⟩
  · rw [heap_setCell_same _ _ _ _ _ _ h.hp]
    rcases lt2 hc with rfl | rfl <;> rfl
  · unfold upd
    by_cases e : i = c
    · rw [if_pos e, if_pos e, if_pos e]; exact key _ _ hqp hrow
    · rw [if_neg e, if_neg e, if_neg e]; exact key _ _ (h.gp i hi) (h.hg i hi)
  · rcases hu i hi with ⟨e, _⟩ | ⟨e, _⟩ <;> rw [e]
    · exact hq
    · exact h.g0 i hi
  · rcases lt2 hc with rfl | rfl
    · exact hq1
    · exact fun e => hq0 e.symm
  · rcases hu i hi with ⟨e, _⟩ | ⟨e, _⟩ <;> rw [e]
    · exact hqp
    · exact h.gp i hi
  · rcases hu i hi with ⟨e, _⟩ | ⟨e, _⟩ <;> rw [e]
    · exact hqm
    · exact h.gm i hi
theorem DI.newP (h : DI w p m g S A T B W) (c : Nat) (hc : c < 2) {q : Nat} (hq : q = W.heap.size) {s a : BitVec 64} :
    DI w p m (upd g c q) S A (upd T c s) (upd B c a) ((W.setCell ⟨p, c, none⟩ (.pointer (some ⟨q, 0, none⟩))).alloc (.cells (dRow s a) 85)) := by
  subst hq
  have h1 := (h.kept ((Below.refl _ _).alloc (Nat.le_refl _) (.cells (dRow s a) 85))).setP c hc (q := W.heap.size) (s := s) (a := a) h.bel.size (Nat.ne_of_gt (lt_row h.hp)) (Nat.ne_of_gt (lt_row h.hm)) (Nat.ne_of_gt (lt_row (h.hg 0 (by omega)))) (Nat.ne_of_gt (lt_row (h.hg 1 (by omega)))) (alloc_at rfl)
  rw [World.setCell_alloc_past _ _ _ _ (lt_row h.hp)] at h1
  exact h1
theorem DI.drew (h : DI w p m g S A T B W) (n : Nat) : DI w p m g S A T B (W.drewN n) := h.kept ⟨rfl, rfl, rfl, Nat.le_refl _, fun _ _ => rfl⟩
theorem DI.wayA (h : DI w p m g S A T B W) {bx : Nat} {o : Obj} (hbx : W.heap[bx]? = some o) {W5 : World} (hb : Below (W.alloc (.cells #[.int .u64 0, .int .u64 0] 28)).drew.heap.size (W.alloc (.cells #[.int .u64 0, .int .u64 0] 28)).drew W5) (s a : BitVec 64) :
    DI w p m g S A T B ((W5.setCell ⟨W.heap.size, 0, none⟩ (.int .u64 (U64 s))).setCell ⟨W.heap.size, 1, none⟩ (.int .u64 (U64 a))) ∧
    ((W5.setCell ⟨W.heap.size, 0, none⟩ (.int .u64 (U64 s))).setCell ⟨W.heap.size, 1, none⟩ (.int .u64 (U64 a))).heap[bx]? = some o ∧
    ((W5.setCell ⟨W.heap.size, 0, none⟩ (.int .u64 (U64 s))).setCell ⟨W.heap.size, 1, none⟩ (.int .u64 (U64 a))).heap[W.heap.size]? = some (.cells (dRow s a) 28) ∧ W.heap.size ≠ m := by
  have h1 : DI w p m g S A T B (W.alloc (.cells #[.int .u64 0, .int .u64 0] 28)).drew := DI.drew (W := W.alloc (.cells #[.int .u64 0, .int .u64 0] 28)) (h.kept ((Below.refl _ _).alloc (Nat.le_refl _) _)) 1
  have h2 := h1.kept hb
  have r : (W.alloc (.cells #[.int .u64 0, .int .u64 0] 28)).drew.heap[W.heap.size]? = some (.cells #[.int .u64 0, .int .u64 0] 28) := alloc_at (w := W) rfl
  have r5 := row_kept r hb
  have z1 := lt_row h.hp
  have z2 := lt_row h.hm
  have z3 := lt_row (h.hg 0 (by omega))
  have z4 := lt_row (h.hg 1 (by omega))
  have z5 := lt_row hbx
  have b5 : W5.heap[bx]? = some o := row_kept (W := (W.alloc (.cells #[.int .u64 0, .int .u64 0] 28)).drew) (alloc_old (w := W) hbx) hb
  refine ⟨h2.away (grown_set (grown_set (grown_refl _ (some W.heap.size)) _ _) _ _) (fun k hk => ?_), ?_, ?_, by omega⟩
  · injection hk with hk
    have := h.bel.size
    omega
  · rw [heap_setCell_other _ _ _ _ (by show bx ≠ W.heap.size; omega), heap_setCell_other _ _ _ _ (by show bx ≠ W.heap.size; omega)]; exact b5
  · rw [heap_setCell_same _ _ _ _ _ _ (heap_setCell_same _ _ _ _ _ _ r5)]; rfl
theorem DI.wayB (h : DI w p m g S A T B W) {bx : Nat} {o : Obj} (hbx : W.heap[bx]? = some o) {W5 : World} (hb : Below W.drew.heap.size W.drew W5) (s a : BitVec 64) :
    DI w p m g S A T B (W5.alloc (.cells (dRow s a) 28)) ∧ (W5.alloc (.cells (dRow s a) 28)).heap[bx]? = some o ∧ (W5.alloc (.cells (dRow s a) 28)).heap[W5.heap.size]? = some (.cells (dRow s a) 28) ∧ W5.heap.size ≠ m := by
  have h1 : DI w p m g S A T B W.drew := h.drew 1
  have h2 := h1.kept hb
  have z2 := lt_row h2.hm
  exact ⟨h2.kept ((Below.refl _ _).alloc (Nat.le_refl _) _), alloc_old (row_kept (W := W.drew) hbx hb), alloc_at rfl, by omega⟩
theorem below_both (s a : BitVec 64) (n : BitVec 32) (ha : a.getLsbD 0 = true) : ∃ (v : BitVec 32) (s' : BitVec 64),
    (∀ W, Calls Try.prog 15 #[.agg #[.int .u64 (U64 s), .int .u64 (U64 a)], .int .u32 (U32 n)] W fun e w' => e = .returned (.tuple #[.int .u32 (U32 v), .agg #[.int .u64 (U64 s'), .int .u64 (U64 a)]]) ∧ Below W.heap.size W w') ∧
    (∀ q W, W.heap[q]? = some (.cells (dRow s a) 85) → Calls Try.prog 16 #[.pointer (some ⟨q, 0, none⟩), .int .u32 (U32 n)] W fun e w' => e = .returned (.int .u32 (U32 v)) ∧ W.grownBy w' (some q) ∧ w'.heap[q]? = some (.cells (dRow s' a) 85)) := by
  by_cases hn : n = 0#32
  · subst hn
    exact ⟨0#32, s, fun W => rbelow_zero s a W, fun q W hq => (below_zero q W).mono (fun e w' ⟨he, hw⟩ => ⟨he, hw ▸ grown_refl _ _, hw ▸ hq⟩)⟩
  · obtain ⟨k, hk⟩ := first_some a s n ha hn
    exact ⟨dword (diter a s k) % n, diter a s (k + 1), fun W => rbelow_any s a n k hn hk W, fun q W hq => below_any q s a n k hn hk W hq⟩
/-- One step's cells. -/
structure OpAt (W : World) (b o : Nat) (kind : Int) (sec : Bool) (n : BitVec 32) (M K : BitVec 64) : Prop where
  c0 : W.cell? ⟨b, o, none⟩ = some (.int .i64 kind)
  c1 : W.cell? ⟨b, o + 1, none⟩ = some (.bool sec)
  c2 : W.cell? ⟨b, o + 2, none⟩ = some (.int .u32 (U32 n))
  c3 : W.cell? ⟨b, o + 3, none⟩ = some (.int .u64 (U64 M))
  c4 : W.cell? ⟨b, o + 4, none⟩ = some (.int .u64 (U64 K))
  b0 : -9223372036854775808 ≤ kind ∧ kind ≤ 9223372036854775807
def two {α : Type} (x y : α) : Nat → α | 0 => x | _ + 1 => y
theorem odd_or (x : BitVec 64) : (x ||| 1#64).getLsbD 0 = true := by
  rw [BitVec.getLsbD_or]; simp
theorem odd_seed (x : BitVec 64) : (seedA x).getLsbD 0 = true := by rw [← seedA_or]; exact odd_or _
theorem or1_x (x : BitVec 64) : bits .or .u64 (U64 x) 1 = U64 (x ||| 1#64) := by rw [or_U64, U64_ofInt]; rfl
end Go.Proofs.Ytndhlgbpfkidbaa
