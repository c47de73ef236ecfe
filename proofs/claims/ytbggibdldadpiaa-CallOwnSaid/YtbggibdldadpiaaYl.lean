/-
  Layer 19: Clear and Strict: what is answered lies in memory of its own, in blocks apart; what the law of ownership keeps.
-/
import Derived.Test.YtbggibdldadpiaaYi
import Derived.Test.YtbggibdldadpiaaYk
import Derived.Test.YtbggibdldadpiaaYc
import Derived.Test.YtbggibdldadpiaaYd
import Derived.Test.YtbggibdldadpiaaYb
import Derived.Test.YtbggibdldadpiaaHe
import Derived.Test.YtbggibdldadpiaaKa
namespace Go.Proofs.Ytbggibdldadpiaa
open Go.RowKit Go.K Go.Maps Go.ChangeShapes Go.WideShapes Go.ChangeAt
set_option linter.unusedVariables false
set_option linter.unusedSimpArgs false
theorem own_ne_row {W : World} {B t sz n g : Nat} {v : Value} {xs : List Value} {cs : Array Value} {t2 : TypeId} {fr : Nat × Nat} (h : W.ownsRow B t sz v n xs) (hb : W.heap[g]? = some (.cells cs t2 fr)) (ht : t ≠ t2) : v.ownBlock ≠ some g := by
  rcases h.2 with ⟨h1, _⟩ | ⟨g', cap, cur, rfl, _, hr, _⟩
  · rw [h1]; intro e; cases e
  · intro e
    injection e with e
    subst e
    rw [hb] at hr
    injection hr with hr
    injection hr with _ hr _
    exact ht hr.symm
theorem fam_cons {B : Nat} {W : World} {r : R3} {l : List R3} {xs : List Value} (h : W.ownsRow B 3 1 (r3 r) r.2.1 xs) (hl : Fam B W l) (hn : ∀ b, (r3 r).ownBlock = some b → ¬ ownS l b) : Fam B W (r :: l) := by
  refine ⟨fun i hi => ?_, fun i j hi hj hne b h1 h2 => ?_⟩
  · cases i with
    | zero => exact ⟨xs, h⟩
    | succ i => exact hl.own i (by simpa using hi)
  · cases i with
    | zero =>
      cases j with
      | zero => exact hne rfl
      | succ j => exact hn b h1 ⟨_, List.getElem_mem (by simpa using hj), h2⟩
    | succ i =>
      cases j with
      | zero => exact hn b h2 ⟨_, List.getElem_mem (by simpa using hi), h1⟩
      | succ j => exact hl.dis i j (by simpa using hi) (by simpa using hj) (by omega) b h1 h2
theorem fam_nil (B : Nat) (W : World) : Fam B W [] := ⟨fun i hi => by simp at hi, fun i j hi => by simp at hi⟩
theorem Fam.kept {B : Nat} {w w' : World} {l : List R3} (h : Fam B w l) (hb : Below w.heap.size w w') : Fam B w' l :=
  ⟨fun i hi => by obtain ⟨xs, hx⟩ := h.own i hi; exact ⟨xs, owns_below (B := 0) hx hb⟩, h.dis⟩
theorem Fam.lt {B : Nat} {w : World} {l : List R3} (h : Fam B w l) {b : Nat} (hb : ownS l b) : B ≤ b ∧ b < w.heap.size := by
  obtain ⟨r, hr, hb⟩ := hb
  obtain ⟨i, hi, rfl⟩ := List.mem_iff_getElem.1 hr
  obtain ⟨xs, hx⟩ := h.own i hi
  exact hx.lt b hb
theorem ownS_append {l m : List R3} {b : Nat} : ownS (l ++ m) b ↔ ownS l b ∨ ownS m b := by
  constructor
  · rintro ⟨r, hr, hb⟩
    rcases List.mem_append.1 hr with h | h
    · exact .inl ⟨r, h, hb⟩
    · exact .inr ⟨r, h, hb⟩
  · rintro (⟨r, hr, hb⟩ | ⟨r, hr, hb⟩)
    · exact ⟨r, List.mem_append_left _ hr, hb⟩
    · exact ⟨r, List.mem_append_right _ hr, hb⟩
theorem fam_append {B : Nat} {w : World} {l m : List R3} (h : Fam B w l) (h2 : Fam B w m) (hd : ∀ b, ownS l b → ¬ ownS m b) : Fam B w (l ++ m) := by
  refine ⟨fun i hi => ?_, fun i j hi hj hne b e1 e2 => ?_⟩
  · by_cases c : i < l.length
    · rw [List.getElem_append_left c]; exact h.own i c
    · rw [List.getElem_append_right (by omega)]; exact h2.own _ _
  · by_cases ci : i < l.length
    · rw [List.getElem_append_left ci] at e1
      by_cases cj : j < l.length
      · rw [List.getElem_append_left cj] at e2; exact h.dis i j ci cj hne b e1 e2
      · rw [List.getElem_append_right (by omega)] at e2; exact hd b ⟨_, List.getElem_mem ci, e1⟩ ⟨_, List.getElem_mem _, e2⟩
    · rw [List.getElem_append_right (by omega)] at e1
      by_cases cj : j < l.length
      · rw [List.getElem_append_left cj] at e2; exact hd b ⟨_, List.getElem_mem cj, e2⟩ ⟨_, List.getElem_mem _, e1⟩
      · rw [List.getElem_append_right (by omega)] at e2
        exact h2.dis _ _ _ _ (by omega) b e1 e2
theorem Fam.base {B B' : Nat} {w : World} {l : List R3} (h : Fam B w l) (hb : B' ≤ B) : Fam B' w l := ⟨fun i hi => by obtain ⟨xs, hx⟩ := h.own i hi; exact ⟨xs, owns_base hx hb⟩, h.dis⟩
def EBox (W : World) (g : Nat) (e : Ent) : Prop := W.heap[g]? = some (.cells #[.int .i64 e.acc, .int .i64 e.item, .int .u64 e.coins, .int .u64 e.price, .slice e.wa e.ws.length e.wc] 53)
theorem EBox.kept {W W' : World} {g : Nat} {e : Ent} (h : EBox W g e) (hb : Below W.heap.size W W') : EBox W' g e := row_kept h hb
theorem EBox.cells {W : World} {g : Nat} {e : Ent} (h : EBox W g e) : W.cell? ⟨g, 0, none⟩ = some (.int .i64 e.acc) ∧ W.cell? ⟨g, 1, none⟩ = some (.int .i64 e.item) ∧ W.cell? ⟨g, 2, none⟩ = some (.int .u64 e.coins) ∧
    W.cell? ⟨g, 3, none⟩ = some (.int .u64 e.price) ∧ W.cell? ⟨g, 4, none⟩ = some (.slice e.wa e.ws.length e.wc) := cells5 h
/-- The two that came in, in boxes; what was there stays. -/
structure Bs (w : World) (c : Con) (e : Ent) (V : World) : Prop where
  bx : Box V w.heap.size c
  ex : EBox V (w.heap.size + 1) e
  bel : Below w.heap.size w V
theorem Bs.kept {w : World} {c : Con} {e : Ent} {V V' : World} (h : Bs w c e V) (hb : Below V.heap.size V V') : Bs w c e V' := ⟨h.bx.kept hb, h.ex.kept hb, h.bel.trans (hb.mono h.bel.size)⟩
theorem Bs.ge {w : World} {c : Con} {e : Ent} {V : World} (h : Bs w c e V) : w.heap.size + 2 ≤ V.heap.size := lt_row h.ex
theorem Bs.only {S : Nat → Prop} {w : World} {c : Con} {e : Ent} {V V' : World} (h : Bs w c e V) (ho : Only S V V') (hS : ∀ k, S k → w.heap.size + 2 ≤ k) : Bs w c e V' :=
  ⟨ho.row h.bx (fun hs => by have := hS _ hs; omega), ho.row h.ex (fun hs => by have := hS _ hs; omega), h.bel.trans (ho.below h.bel.size (fun k hk => by have := hS k hk; omega))⟩
/-- Rows of other kinds than lists of lists stay. -/
def Kp (W V : World) : Prop := ∀ (g : Nat) (cs : Array Value) (t : TypeId), t ≠ 24 → W.heap[g]? = some (.cells cs t (0, 0)) → V.heap[g]? = some (.cells cs t (0, 0))
theorem Kp.refl (W : World) : Kp W W := fun g cs t _ h => h
theorem Kp.trans {W V U : World} (h : Kp W V) (k : Kp V U) : Kp W U := fun g cs t ht hr => k g cs t ht (h g cs t ht hr)
theorem Kp.below {W V : World} (h : Below W.heap.size W V) : Kp W V := fun g cs t _ hr => row_kept hr h
theorem Kp.grown {W V : World} {B sz n : Nat} {v : Value} {xs : List Value} (ho : W.ownsRow B 24 sz v n xs) (hg : W.grownBy V v.ownBlock) : Kp W V :=
  fun g cs t ht hr => row_past hr hg (fun e => own_ne_row ho hr (fun e2 => ht e2.symm) e.symm)
theorem Kp.owns {W V : World} {B t sz n : Nat} {v : Value} {xs : List Value} (hk : Kp W V) (h : W.ownsRow B t sz v n xs) (ht : t ≠ 24) : V.ownsRow B t sz v n xs := by
  refine ⟨h.1, ?_⟩
  rcases h.2 with h2 | ⟨g, cap, cur, hv, hB, hr, h3⟩
  · exact .inl h2
  · exact .inr ⟨g, cap, cur, hv, hB, hk g cur t ht hr, h3⟩
theorem Kp.newC {W V : World} {B : Nat} {d : Con} (hk : Kp W V) (h : NewC B W d) : NewC B V d :=
  ⟨hk.owns h.row (by decide), fun e he => ⟨hk.owns (h.ents e he).row (by decide), (h.ents e he).mx, (h.ents e he).wf, (h.ents e he).iw, (h.ents e he).cw, (h.ents e he).pw⟩, h.mx⟩
theorem Kp.cell {W V : World} (hk : Kp W V) {g o : Nat} {cs : Array Value} {t : TypeId} {u : Value} (hr : W.heap[g]? = some (.cells cs t (0, 0))) (ht : t ≠ 24) (hc : W.cell? ⟨g, o, none⟩ = some u) : V.cell? ⟨g, o, none⟩ = some u := by
  rw [cell_of_row _ _ _ _ _ _ hr] at hc
  rw [cell_of_row _ _ _ _ _ _ (hk g cs t ht hr)]
  exact hc
/-- Where an entry of an answered contract lies. -/
theorem NewC.at_ent {B : Nat} {W : World} {d : Con} (h : NewC B W d) (i : Nat) (hi : i < d.es.length) : ∃ g cs, d.ea = some ⟨g, 0, none⟩ ∧ W.heap[g]? = some (.cells cs 53 (0, 0)) ∧ W.cell? ⟨g, i * 5 + 4, none⟩ = some (.slice d.es[i].wa d.es[i].ws.length d.es[i].wc) := by
  obtain ⟨g, cap, cur, hv, _, hr, _⟩ := owns_cases h.row (by omega)
  injection hv with h1 h2 h3
  obtain ⟨ob, oo, hea, f0, f1, f2, f3, f4⟩ := h.ok.ent i hi
  rw [h1] at hea
  injection hea with hea
  injection hea with e1 e2
  refine ⟨g, cur, h1, hr, ?_⟩
  rw [← e1, ← e2, Nat.zero_add] at f4
  exact f4
def WL (d1 d2 : Con) (i : Nat) : List R3 := (List.range i).flatMap fun k => [(d1.es.map Ent.w3).getD k (none, 0, 0), (d2.es.map Ent.w3).getD k (none, 0, 0)]
theorem WL_succ (d1 d2 : Con) (i : Nat) : WL d1 d2 (i + 1) = WL d1 d2 i ++ [(d1.es.map Ent.w3).getD i (none, 0, 0), (d2.es.map Ent.w3).getD i (none, 0, 0)] := by unfold WL; rw [List.range_succ, List.flatMap_append]; simp
theorem WL_len (d1 d2 : Con) (i : Nat) : (WL d1 d2 i).length = 2 * i := by
  induction i with
  | zero => rfl
  | succ i ih => rw [WL_succ, List.length_append, ih]; simp; omega
theorem w3_get (d : Con) (i : Nat) (h : i < d.es.length) : (d.es.map Ent.w3).getD i (none, 0, 0) = (d.es[i].wa, d.es[i].ws.length, d.es[i].wc) := by
  rw [List.getD_eq_getElem?_getD, List.getElem?_map, List.getElem?_eq_getElem h]; rfl
/-- The list of all lists, while it grows. -/
structure Gx (w6 w13 V : World) (v : Value) (n : Nat) (xs : List Value) : Prop where
  own : V.ownsRow w6.heap.size 24 1 v n xs
  bel : Below w6.heap.size w6 V
  kp : Kp w13 V
section
variable {w6 w13 V V' : World} {v v' : Value} {n : Nat} {xs : List Value}
theorem Gx.below (h : Gx w6 w13 V v n xs) (hb : Below V.heap.size V V') : Gx w6 w13 V' v n xs := ⟨owns_below (B := 0) h.own hb, h.bel.trans (hb.mono h.bel.size), h.kp.trans (Kp.below hb)⟩
theorem Gx.alloc {o : Obj} (h : Gx w6 w13 V v n xs) : Gx w6 w13 (V.alloc o) v n xs := h.below ((Below.refl _ _).alloc (Nat.le_refl _) o)
theorem Gx.drew (h : Gx w6 w13 V v n xs) : Gx w6 w13 V.drew v n xs := h.below (below_drawn (Below.refl _ _) _)
theorem Gx.ge (h : Gx w6 w13 V v n xs) : w6.heap.size ≤ V.heap.size := h.bel.size
theorem Gx.app {m : Nat} {ys : List Value} (h : Gx w6 w13 V v n xs) (ho : V'.ownsRow w6.heap.size 24 1 v' m ys) (hg : V.grownBy V' v.ownBlock) : Gx w6 w13 V' v' m ys :=
  ⟨ho, h.bel.grown hg h.bel.size (fun k hk => (h.own.lt k hk).1), h.kp.trans (Kp.grown h.own hg)⟩
theorem Gx.at {P : Program} {ops : Array Oper} {o : Oper} {a : Act} {K : Act → World → Prop} {Q : Exit → Act → World → Prop} {E : Prop} (h : Gx w6 w13 V v n xs)
    (k : Gx w6 w13 V v n xs → if Region.wanted o (yielded ops a.tmps) = true then Oper.wp P o a V K Q else E) : if Region.wanted o (yielded ops a.tmps) = true then Oper.wp P o a V K Q else E := k h
end
theorem sl_alloc1 {W : World} {a : Option Addr} {l : List Value} {o : Obj} (h : Sl W a l) : Sl (W.alloc o) a l := h.kept ((Below.refl _ _).alloc (Nat.le_refl _) o)
theorem sl_drew1 {W : World} {a : Option Addr} {l : List Value} (h : Sl W a l) : Sl W.drew a l := h.kept (below_drawn (Below.refl _ _) _)
theorem sl_new2 (w : World) (o : Obj) (cs : List Value) (t : TypeId) (fr : Nat × Nat) : Sl ((w.alloc o).alloc (.cells cs.toArray t fr)) (some ⟨w.heap.size + 1, 0, none⟩) cs := by
  have h := sl_new (w.alloc o) cs t fr
  rw [World.size_alloc] at h
  exact h
theorem sl_grown1 {W W' : World} {b : Nat} {l : List Value} {row : Option Nat} (h : Sl W (some ⟨b, 0, none⟩) l) (hg : W.grownBy W' row) (hn : row ≠ some b) : Sl W' (some ⟨b, 0, none⟩) l := by
  intro hne
  obtain ⟨b', o', e, hc⟩ := h hne
  cases e
  refine ⟨b, 0, rfl, fun i hi => ?_⟩
  have h1 := hc i hi
  rw [List.getElem?_eq_getElem hi] at h1 ⊢
  exact hg.cell h1 (fun e => hn e.symm)
theorem nbnd {T i n : Nat} (h1 : T ≤ 5000000) (h2 : n ≤ 3001) (h3 : i < n) : T + 2 * i + 2 ≤ 6000000 := by omega
theorem lens {c d : Con} {e : Ent} (h : d.d = if joinV c e = 0 then joinD c e else conZ.d) : (joinV c e = 0 → d.es.length = c.es.length + 1) ∧ (joinV c e ≠ 0 → d.es.length = 0) := by
  refine ⟨fun h0 => ?_, fun h0 => ?_⟩
  · rw [if_pos h0] at h
    have := congrArg (fun x => x.2.2.length) h
    simpa [Con.d, joinD] using this
  · rw [if_neg h0] at h
    have := congrArg (fun x => x.2.2.length) h
    simpa [Con.d, conZ] using this
theorem fam_of {B : Nat} {W : World} {l : List R3} (h : ∀ r ∈ l, ∃ xs, W.ownsRow B 3 1 (r3 r) r.2.1 xs) (h2 : l.Pairwise fun r s => ∀ b, (r3 r).ownBlock = some b → (r3 s).ownBlock ≠ some b) : Fam B W l := by
  refine ⟨fun i hi => h _ (List.getElem_mem hi), fun i j hi hj hne b e1 e2 => ?_⟩
  have hp := List.pairwise_iff_getElem.1 h2
  rcases Nat.lt_or_gt_of_ne hne with c | c
  · exact hp i j hi hj c b e1 e2
  · exact hp j i hj hi c b e2 e1
theorem fam_to {B : Nat} {W : World} {l : List R3} (h : Fam B W l) : (∀ r ∈ l, ∃ xs, W.ownsRow B 3 1 (r3 r) r.2.1 xs) ∧ l.Pairwise fun r s => ∀ b, (r3 r).ownBlock = some b → (r3 s).ownBlock ≠ some b := by
  refine ⟨fun r hr => ?_, List.pairwise_iff_getElem.2 fun i j hi hj hij => h.dis i j hi hj (by omega)⟩
  obtain ⟨i, hi, rfl⟩ := List.mem_iff_getElem.1 hr
  exact h.own i hi
theorem Fam.perm {B : Nat} {W : World} {l m : List R3} (h : Fam B W l) (hp : l.Perm m) : Fam B W m := by
  obtain ⟨h1, h2⟩ := fam_to h
  exact fam_of (fun r hr => h1 r (hp.mem_iff.2 hr)) ((hp.pairwise_iff (fun {r s} hrs b e1 e2 => hrs b e2 e1)).1 h2)
theorem fam_wishes {B : Nat} {w : World} {d : Con} (h : NewC B w d) (hd : DisE d.es) : Fam B w (d.es.map Ent.w3) := by
  refine ⟨fun i hi => ?_, fun i j hi hj hne b h1 h2 => ?_⟩
  · rw [List.length_map] at hi
    rw [List.getElem_map]
    exact ⟨_, (h.ents _ (List.getElem_mem hi)).row⟩
  · rw [List.length_map] at hi hj
    rw [List.getElem_map] at h1 h2
    exact hd i j hi hj hne b h1 h2
theorem wl_perm (d1 d2 : Con) (h : d1.es.length = d2.es.length) : ∀ i, i ≤ d1.es.length → ((d1.es.map Ent.w3).take i ++ (d2.es.map Ent.w3).take i).Perm (WL d1 d2 i)
  | 0, _ => by simp [WL]
  | i + 1, hi => by
    have ih := wl_perm d1 d2 h i (by omega)
    have e1 : (d1.es.map Ent.w3).take (i + 1) = (d1.es.map Ent.w3).take i ++ [(d1.es.map Ent.w3).getD i (none, 0, 0)] := by
      rw [List.take_succ_eq_append_getElem (by rw [List.length_map]; omega), List.getD_eq_getElem?_getD, List.getElem?_eq_getElem (by rw [List.length_map]; omega)]; rfl
    have e2 : (d2.es.map Ent.w3).take (i + 1) = (d2.es.map Ent.w3).take i ++ [(d2.es.map Ent.w3).getD i (none, 0, 0)] := by
      rw [List.take_succ_eq_append_getElem (by rw [List.length_map]; omega), List.getD_eq_getElem?_getD, List.getElem?_eq_getElem (by rw [List.length_map]; omega)]; rfl
    rw [WL_succ, e1, e2]
    refine List.perm_iff_count.2 (fun x => ?_)
    have := List.perm_iff_count.1 ih x
    simp only [List.count_append, List.count_cons, List.count_nil] at this ⊢
    omega
theorem fam_wl {B : Nat} {W : World} {d1 d2 : Con} (h : d1.es.length = d2.es.length) (h1 : Fam B W (d1.es.map Ent.w3)) (h2 : Fam B W (d2.es.map Ent.w3)) (hd : ∀ b, ownS (d1.es.map Ent.w3) b → ¬ ownS (d2.es.map Ent.w3) b) : Fam B W (WL d1 d2 d1.es.length) := by
  have hp := wl_perm d1 d2 h d1.es.length (Nat.le_refl _)
  rw [List.take_of_length_le (by rw [List.length_map]; exact Nat.le_refl _), List.take_of_length_le (by rw [List.length_map]; omega)] at hp
  exact Fam.perm (fam_append h1 h2 hd) hp
theorem ownS_perm {l m : List R3} (h : l.Perm m) {b : Nat} (hb : ownS m b) : ownS l b := by
  obtain ⟨r, hr, e⟩ := hb
  exact ⟨r, h.mem_iff.2 hr, e⟩
theorem ownS_wl {d1 d2 : Con} (h : d1.es.length = d2.es.length) {b : Nat} (hb : ownS (WL d1 d2 d1.es.length) b) : ownS (d1.es.map Ent.w3) b ∨ ownS (d2.es.map Ent.w3) b := by
  have hp := wl_perm d1 d2 h d1.es.length (Nat.le_refl _)
  rw [List.take_of_length_le (by rw [List.length_map]; exact Nat.le_refl _), List.take_of_length_le (by rw [List.length_map]; omega)] at hp
  exact ownS_append.1 (ownS_perm hp hb)
theorem liS : (Try.prog.info? 24).map (fun i => (i.zero, i.size, i.bytes)) = some (some (.slice none 0 0), 1, 24) := by kernel_rfl
theorem one_sl (u0 : Value) (a : Option Addr) (n c : Nat) (h : u0 = .slice a n c) : ∀ u ∈ [u0], u.oneCell' = true := by intro u hu; rw [List.mem_singleton] at hu; rw [hu, h]; rfl
def natL (d : Nat → Nat) (n : Nat) : List Int := (List.range n).map fun i => ((d i : Nat) : Int)
theorem natL_row (d : Nat → Nat) (n : Nat) : vI (natL d n) = rowN d n := by unfold vI natL rowN; rw [List.map_map]; rfl
theorem natL_len (d : Nat → Nat) (n : Nat) : (natL d n).length = n := by simp [natL]
/-- Who deals by Clear. -/
def ClV (xs ys : List (BitVec 64)) (L M : List Int) : Prop := ∃ da db k, RankZ true xs da ∧ RankZ false ys db ∧ KV xs ys da db k ∧ L = natL da k ∧ M = natL db k
theorem clv_unique {xs ys : List (BitVec 64)} {L M L' M' : List Int} (h : ClV xs ys L M) (h' : ClV xs ys L' M') : L = L' ∧ M = M' := by
  obtain ⟨da, db, k, h1, h2, h3, rfl, rfl⟩ := h
  obtain ⟨da', db', k', g1, g2, g3, rfl, rfl⟩ := h'
  have e1 := rankz_unique h1 g1
  have e2 := rankz_unique h2 g2
  subst e1 e2
  have e3 := kv_unique h3 g3
  subst e3
  exact ⟨rfl, rfl⟩
theorem kv_mx {xs ys : List (BitVec 64)} {da db : Nat → Nat} {k : Nat} (h : KV xs ys da db k) : k ≤ xs.length ∧ k ≤ ys.length := ⟨h.1, h.2.1⟩
/-- Two lists in memory of their own, apart. -/
structure DlO (B : Nat) (W : World) (r s : R3) (L M : List Int) : Prop where
  o1 : W.ownsRow B 3 1 (r3 r) r.2.1 (vI L)
  o2 : W.ownsRow B 3 1 (r3 s) s.2.1 (vI M)
  l1 : r.2.1 = L.length
  l2 : s.2.1 = M.length
  off : ∀ b, (r3 r).ownBlock = some b → (r3 s).ownBlock ≠ some b
  mx : L.length ≤ 17592186043904 ∧ M.length ≤ 17592186043904
theorem DlO.kept {B : Nat} {W W' : World} {r s : R3} {L M : List Int} (h : DlO B W r s L M) (hb : Below W.heap.size W W') : DlO B W' r s L M :=
  ⟨owns_below (B := 0) h.o1 hb, owns_below (B := 0) h.o2 hb, h.l1, h.l2, h.off, h.mx⟩
theorem DlO.of_deal {n pay get B : Nat} {da db : Nat → Nat} {W : World} {v : Value} (h : DealV n da db pay get B W v) (hn : n ≤ 17592186043904) : ∃ r s, v = .agg #[r3 r, r3 s, .int .u64 pay, .int .u64 get] ∧ DlO B W r s (natL da n) (natL db n) := by
  obtain ⟨a1, c1, a2, c2, M, rfl, hM, h1, h2, h3⟩ := h
  refine ⟨(a1, n, c1), (a2, n, c2), rfl, ⟨?_, ?_, (natL_len _ _).symm, (natL_len _ _).symm, fun b e1 e2 => ?_, by rw [natL_len, natL_len]; exact ⟨hn, hn⟩⟩⟩
  · rw [natL_row]; exact h1
  · rw [natL_row]; exact owns_base h3 hM
  · have := h2 b e1; have := (h3.lt b e2).1; omega
theorem clear_own (xs ys : List (BitVec 64)) (aa ba : Option Addr) (ca cb : Nat) (w : World) (hna : xs.length ≤ 17592186043904) (hnb : ys.length ≤ 17592186043904) (ha : Sl w aa (vQ xs)) (hb : Sl w ba (vQ ys)) :
    Calls Try.prog 8 #[.slice aa xs.length ca, .slice ba ys.length cb] w fun r w' => ∃ (g h : R3) (L M : List Int) (p q : Int), r = .returned (.agg #[r3 g, r3 h, .int .u64 p, .int .u64 q]) ∧ Below w.heap.size w w' ∧ ClV xs ys L M ∧ DlO w.heap.size w' g h L M := by
  refine (clear_any xs ys aa ba ca cb w hna hnb ha hb).mono ?_
  rintro r w' ⟨v, rfl, ⟨da, db, k, h1, h2, h3, h4⟩, hb'⟩
  obtain ⟨g, h, rfl, ho⟩ := DlO.of_deal h4 (by have := h3.1; omega)
  exact ⟨g, h, _, _, _, _, rfl, hb', ⟨da, db, k, h1, h2, h3, rfl, rfl⟩, ho⟩
theorem strict_own (xs ys : List (BitVec 64)) (aa ba : Option Addr) (ca cb : Nat) (w : World) (hna : xs.length ≤ 17592186043904) (hnb : ys.length ≤ 17592186043904) (ha : Sl w aa (vQ xs)) (hb : Sl w ba (vQ ys)) :
    Calls Try.prog 15 #[.slice aa xs.length ca, .slice ba ys.length cb] w fun r w' => ∃ (g h : R3) (L M : List Int) (p q : Int), r = .returned (.agg #[r3 g, r3 h, .int .u64 p, .int .u64 q]) ∧ Below w.heap.size w w' ∧ DlO w.heap.size w' g h L M := by
  refine (strict_any xs ys aa ba ca cb w hna hnb ha hb).mono ?_
  rintro r w' ⟨v, rfl, ⟨da, db, k, h1, h2, h3, h4⟩, hb'⟩
  obtain ⟨g, h, rfl, ho⟩ := DlO.of_deal h4 (by have := h3.1; have := stN_le (xs := xs) (ys := ys) (da := da) (db := db) (k := k); omega)
  exact ⟨g, h, _, _, _, _, rfl, hb', ho⟩
theorem endG_same {es : List Ent} {da db da' db' : Nat → Nat} {k k' : Nat} (h1 : RankZ true (qA es es.length) da) (h2 : RankZ false (qB es es.length) db) (h3 : KV (qA es es.length) (qB es es.length) da db k)
    (g1 : RankZ true (qA es es.length) da') (g2 : RankZ false (qB es es.length) db') (g3 : KV (qA es es.length) (qB es es.length) da' db' k') : endG es da db k = endG es da' db' k' := by
  have e1 := rankz_unique h1 g1
  have e2 := rankz_unique h2 g2
  subst e1 e2
  rw [kv_unique h3 g3]
theorem endG_len {es : List Ent} {da db : Nat → Nat} {k : Nat} (h3 : KV (qA es es.length) (qB es es.length) da db k) : (endG es da db k).length ≤ 5 * es.length := by
  have h1 := h3.1
  rw [qA_len] at h1
  have h2 := iA_le es es.length
  unfold endG
  refine Nat.le_trans (endE_le _ _ _ _) ?_
  have h4 := endD_le es (fun i => (iA es es.length).getD (da i) 0) (fun i => (iB es es.length).getD (db i) 0) (priceV (qA es es.length) (qB es es.length) da db k) k
  omega
def flat3 (l : List (Nat × R3 × R3)) : List R3 := l.flatMap fun x => [x.2.1, x.2.2]
/-- Deals in variables of their own. -/
structure DS (B : Nat) (W : World) (l : List (Nat × R3 × R3)) : Prop where
  box : ∀ x ∈ l, ∃ p q : Int, W.heap[x.1]? = some (.cells #[r3 x.2.1, r3 x.2.2, .int .u64 p, .int .u64 q] 27 (0, 0))
  fam : Fam B W (flat3 l)
  mx : ∀ r ∈ flat3 l, r.2.1 ≤ 17592186043904
theorem DS.nil (B : Nat) (W : World) : DS B W [] := ⟨(fun x h => by cases h), fam_nil _ _, (fun r h => by cases h)⟩
theorem DS.kept {B : Nat} {W W' : World} {l : List (Nat × R3 × R3)} (h : DS B W l) (hb : Below W.heap.size W W') : DS B W' l :=
  ⟨fun x hx => by obtain ⟨p, q, hr⟩ := h.box x hx; exact ⟨p, q, row_kept hr hb⟩, h.fam.kept hb, h.mx⟩
theorem DS.push {B : Nat} {W W1 W2 : World} {l : List (Nat × R3 × R3)} {r s : R3} {L M : List Int} {p q : Int} (h : DS B W l) (hB : B ≤ W.heap.size) (hb : Below W.heap.size W W1) (ho : DlO W.heap.size W1 r s L M)
    (hb2 : Below W1.heap.size W1 W2) (hr : W2.heap[W1.heap.size]? = some (.cells #[r3 r, r3 s, .int .u64 p, .int .u64 q] 27 (0, 0))) : DS B W2 (l ++ [(W1.heap.size, r, s)]) := by
  have h1 := (h.kept hb).kept hb2
  have ho2 := ho.kept hb2
  have e : flat3 (l ++ [(W1.heap.size, r, s)]) = flat3 l ++ [r, s] := by simp [flat3]
  refine ⟨fun x hx => ?_, ?_, ?_⟩
  · rcases List.mem_append.1 hx with hx | hx
    · exact h1.box x hx
    · rw [List.mem_singleton] at hx; subst hx; exact ⟨p, q, hr⟩
  · rw [e]
    refine fam_append h1.fam (fam_cons (owns_base ho2.o1 hB) (fam_cons (owns_base ho2.o2 hB) (fam_nil _ _) (fun b _ hb => by obtain ⟨r, hr, _⟩ := hb; cases hr)) (fun b e1 hb => ?_)) (fun b e1 e2 => ?_)
    · obtain ⟨r', hr', e2⟩ := hb
      rw [List.mem_singleton] at hr'; subst hr'
      exact ho2.off b e1 e2
    · have hlt := (h.fam.lt e1).2
      obtain ⟨r', hr', e2⟩ := e2
      simp only [List.mem_cons, List.not_mem_nil, or_false] at hr'
      rcases hr' with rfl | rfl
      · have := (ho.o1.lt b e2).1; omega
      · have := (ho.o2.lt b e2).1; omega
  · rw [e]
    intro x hx
    rcases List.mem_append.1 hx with hx | hx
    · exact h.mx x hx
    · simp only [List.mem_cons, List.not_mem_nil, or_false] at hx
      rcases hx with rfl | rfl
      · rw [ho.l1]; exact ho.mx.1
      · rw [ho.l2]; exact ho.mx.2
theorem DS.cells {B : Nat} {W : World} {l : List (Nat × R3 × R3)} (h : DS B W l) (g : Nat) (r s : R3) (hx : (g, r, s) ∈ l) : W.cell? ⟨g, 0, none⟩ = some (r3 r) ∧ W.cell? ⟨g, 1, none⟩ = some (r3 s) := by
  obtain ⟨p, q, hr⟩ := h.box _ hx
  exact ⟨by rw [cell_of_row _ _ _ _ _ _ hr]; rfl, by rw [cell_of_row _ _ _ _ _ _ hr]; rfl⟩
end Go.Proofs.Ytbggibdldadpiaa
