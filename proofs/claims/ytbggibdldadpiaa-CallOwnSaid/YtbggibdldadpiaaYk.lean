/-
  Layer 19: End of a contract: what it gives lies in memory of its own.
-/
import Derived.Test.YtbggibdldadpiaaYj
import Derived.Test.YtbggibdldadpiaaJd
namespace Go.Proofs.Ytbggibdldadpiaa
open Go.RowKit Go.K
set_option linter.unusedVariables false
set_option linter.unusedSimpArgs false
/-- The four lists, while the entries are looked at. -/
structure EI1 (w : World) (c : Con) (k : Nat) (v3 v4 v5 v6 : Value) (W : World) : Prop where
  bel : Below w.heap.size w W
  box : Box W w.heap.size c
  r3 : W.ownsRow (w.heap.size + 1) 23 1 v3 (iA c.es k).length (vQ (qA c.es k))
  r4 : W.ownsRow (w.heap.size + 1) 23 1 v4 (iB c.es k).length (vQ (qB c.es k))
  r5 : W.ownsRow (w.heap.size + 1) 3 1 v5 (iA c.es k).length (vN (iA c.es k))
  r6 : W.ownsRow (w.heap.size + 1) 3 1 v6 (iB c.es k).length (vN (iB c.es k))
  o34 : offB v3 v4
  o56 : offB v5 v6
theorem EI1.below {w : World} {c : Con} {k : Nat} {v3 v4 v5 v6 : Value} {W W' : World} (h : EI1 w c k v3 v4 v5 v6 W) (hb : Below W.heap.size W W') : EI1 w c k v3 v4 v5 v6 W' :=
  ⟨h.bel.trans (hb.mono h.bel.size), h.box.kept hb, owns_below (B := 0) h.r3 hb, owns_below (B := 0) h.r4 hb, owns_below (B := 0) h.r5 hb, owns_below (B := 0) h.r6 hb, h.o34, h.o56⟩
theorem offB_next {W : World} {B t sz n : Nat} {u v v' : Value} {xs : List Value} (h : offB v u) (hu : W.ownsRow B t sz u n xs) (hl : v'.ownBlock = v.ownBlock ∨ v'.ownBlock = some W.heap.size) : offB v' u := by
  intro b h1 h2
  rcases hl with e | e
  · exact h b (e ▸ h1) h2
  · rw [e] at h1; injection h1 with h1; have := (hu.lt b h2).2; omega
theorem offB_or {u v : Value} (h : offB v u) : u.ownBlock = none ∨ u.ownBlock ≠ v.ownBlock := by
  cases hv : u.ownBlock with
  | none => exact .inl rfl
  | some b => exact .inr (fun e => h b e.symm hv)
theorem EI1.grownBox {w : World} {c : Con} {W W' : World} {B t sz n : Nat} {v : Value} {xs : List Value} (hb : Below w.heap.size w W) (hx : Box W w.heap.size c) (ho : W.ownsRow (w.heap.size + 1) t sz v n xs) (hg : W.grownBy W' v.ownBlock) : Below w.heap.size w W' ∧ Box W' w.heap.size c :=
  ⟨hb.grown hg hb.size (fun k hk => by have := (ho.lt k hk).1; omega), row_past hx hg (fun e => by have := (ho.lt _ e.symm).1; omega)⟩
theorem EI1.ask {w : World} {c : Con} {k : Nat} {v3 v4 v5 v6 u3 u5 : Value} {W Wa W1 Wb W2 : World} (h : EI1 w c k v3 v4 v5 v6 W) (hi : (entN c.es k).item ≠ 0) (ha : Below W.heap.size W Wa)
    (h3 : W1.ownsRow (w.heap.size + 1) 23 1 u3 ((iA c.es k).length + 1) (vQ (qA c.es k) ++ [.int .u64 (entN c.es k).price])) (hg3 : Wa.grownBy W1 v3.ownBlock) (hl3 : u3.ownBlock = v3.ownBlock ∨ u3.ownBlock = some Wa.heap.size) (hb : Below W1.heap.size W1 Wb)
    (h5 : W2.ownsRow (w.heap.size + 1) 3 1 u5 ((iA c.es k).length + 1) (vN (iA c.es k) ++ [.int .i64 (k : Int)])) (hg5 : Wb.grownBy W2 v5.ownBlock) (hl5 : u5.ownBlock = v5.ownBlock ∨ u5.ownBlock = some Wb.heap.size)
    (hp : (Lit.int .u64 (entN c.es k).price).wf = true) : EI1 w c (k + 1) u3 v4 u5 v6 W2 := by
  have ea : iA c.es (k + 1) = iA c.es k ++ [k] := by rw [iA, if_neg hi]
  have eb : iB c.es (k + 1) = iB c.es k := by rw [iB, if_neg hi, List.append_nil]
  have eq : vQ (qA c.es (k + 1)) = vQ (qA c.es k) ++ [.int .u64 (entN c.es k).price] := by
    obtain ⟨x, hx⟩ := u64_of_wf hp
    unfold qA; rw [ea, List.map_append, vQ_append]
    show _ ++ [Value.int .u64 (U64 (BitVec.ofInt 64 (entN c.es k).price))] = _
    rw [hx, U64_ofInt]
  have e2 : qB c.es (k + 1) = qB c.es k := by unfold qB; rw [eb]
  have hA := h.below ha
  obtain ⟨b1, x1⟩ := EI1.grownBox (B := 0) hA.bel hA.box hA.r3 hg3
  have r41 := hA.r4.kept hg3 (offB_or hA.o34)
  have r51 := hA.r5.kept hg3 (owns_apart hA.r5 hA.r3 (by decide))
  have r61 := hA.r6.kept hg3 (owns_apart hA.r6 hA.r3 (by decide))
  have r3b := owns_below (B := 0) h3 hb
  have r4b := owns_below (B := 0) r41 hb
  have r5b := owns_below (B := 0) r51 hb
  have r6b := owns_below (B := 0) r61 hb
  have bb := b1.trans (hb.mono b1.size)
  have xb := x1.kept hb
  obtain ⟨b2, x2⟩ := EI1.grownBox (B := 0) bb xb r5b hg5
  refine ⟨b2, x2, ?_, ?_, ?_, ?_, ?_, ?_⟩
  · rw [ea, eq, List.length_append]; exact r3b.kept hg5 (owns_apart r3b r5b (by decide))
  · rw [eb, e2]; exact r4b.kept hg5 (owns_apart r4b r5b (by decide))
  · rw [ea, List.length_append, vN_append]; exact h5
  · rw [eb]; exact r6b.kept hg5 (offB_or h.o56)
  · exact offB_next h.o34 hA.r4 hl3
  · exact offB_next h.o56 r6b hl5
theorem EI1.bid {w : World} {c : Con} {k : Nat} {v3 v4 v5 v6 u4 u6 : Value} {W Wa W1 Wb W2 : World} (h : EI1 w c k v3 v4 v5 v6 W) (hi : (entN c.es k).item = 0) (ha : Below W.heap.size W Wa)
    (h4 : W1.ownsRow (w.heap.size + 1) 23 1 u4 ((iB c.es k).length + 1) (vQ (qB c.es k) ++ [.int .u64 (entN c.es k).coins])) (hg4 : Wa.grownBy W1 v4.ownBlock) (hl4 : u4.ownBlock = v4.ownBlock ∨ u4.ownBlock = some Wa.heap.size) (hb : Below W1.heap.size W1 Wb)
    (h6 : W2.ownsRow (w.heap.size + 1) 3 1 u6 ((iB c.es k).length + 1) (vN (iB c.es k) ++ [.int .i64 (k : Int)])) (hg6 : Wb.grownBy W2 v6.ownBlock) (hl6 : u6.ownBlock = v6.ownBlock ∨ u6.ownBlock = some Wb.heap.size)
    (hp : (Lit.int .u64 (entN c.es k).coins).wf = true) : EI1 w c (k + 1) v3 u4 v5 u6 W2 := by
  have ea : iA c.es (k + 1) = iA c.es k := by rw [iA, if_pos hi, List.append_nil]
  have eb : iB c.es (k + 1) = iB c.es k ++ [k] := by rw [iB, if_pos hi]
  have eq : vQ (qB c.es (k + 1)) = vQ (qB c.es k) ++ [.int .u64 (entN c.es k).coins] := by
    obtain ⟨x, hx⟩ := u64_of_wf hp
    unfold qB; rw [eb, List.map_append, vQ_append]
    show _ ++ [Value.int .u64 (U64 (BitVec.ofInt 64 (entN c.es k).coins))] = _
    rw [hx, U64_ofInt]
  have e2 : qA c.es (k + 1) = qA c.es k := by unfold qA; rw [ea]
  have hA := h.below ha
  obtain ⟨b1, x1⟩ := EI1.grownBox (B := 0) hA.bel hA.box hA.r4 hg4
  have r31 := hA.r3.kept hg4 (offB_or hA.o34.symm)
  have r51 := hA.r5.kept hg4 (owns_apart hA.r5 hA.r4 (by decide))
  have r61 := hA.r6.kept hg4 (owns_apart hA.r6 hA.r4 (by decide))
  have r4b := owns_below (B := 0) h4 hb
  have r3b := owns_below (B := 0) r31 hb
  have r5b := owns_below (B := 0) r51 hb
  have r6b := owns_below (B := 0) r61 hb
  have bb := b1.trans (hb.mono b1.size)
  have xb := x1.kept hb
  obtain ⟨b2, x2⟩ := EI1.grownBox (B := 0) bb xb r6b hg6
  refine ⟨b2, x2, ?_, ?_, ?_, ?_, ?_, ?_⟩
  · rw [ea, e2]; exact r3b.kept hg6 (owns_apart r3b r6b (by decide))
  · rw [eb, eq, List.length_append]; exact r4b.kept hg6 (owns_apart r4b r6b (by decide))
  · rw [ea]; exact r5b.kept hg6 (offB_or h.o56.symm)
  · rw [eb, List.length_append, vN_append]; exact h6
  · exact (offB_next h.o34.symm hA.r3 hl4).symm
  · exact (offB_next h.o56.symm r5b hl6).symm
/-- What End gives, once it is known who deals. -/
def endG (es : List Ent) (da db : Nat → Nat) (k : Nat) : List Gi :=
  endE es (dlt (fun i => (iA es es.length).getD (da i) 0) (fun i => (iB es es.length).getD (db i) 0) k)
    (endD es (fun i => (iA es es.length).getD (da i) 0) (fun i => (iB es es.length).getD (db i) 0) (priceV (qA es es.length) (qB es es.length) da db k) k) es.length
def EndAns (w : World) (c : Con) (r : Ending) (w' : World) : Prop :=
  ∃ (v : Value) (da db : Nat → Nat) (k : Nat), r = .returned v ∧ RankZ true (qA c.es c.es.length) da ∧ RankZ false (qB c.es c.es.length) db ∧ KV (qA c.es c.es.length) (qB c.es c.es.length) da db k ∧
    w'.ownsRow w.heap.size 87 3 v (endG c.es da db k).length (gFlat (endG c.es da db k)) ∧ Below w.heap.size w w'
theorem own_blk {W : World} {B t sz n c : Nat} {a : Option Addr} {xs : List Value} (h : W.ownsRow B t sz (.slice a n c) n xs) : ∀ x, a = some x → x.block < W.heap.size := by
  intro x hx
  rcases h.2 with ⟨h1, _⟩ | ⟨g, cap, cur, hv, _, hr, _⟩
  · injection h1 with h1; rw [h1] at hx; cases hx
  · injection hv with h1; rw [h1] at hx; cases hx; exact lt_row hr
theorem rowN_length (d : Nat → Nat) (n : Nat) : (rowN d n).length = n := by simp [rowN]
/-- What stays while the gifts are made: the contract, the deal, and who asks and bids. -/
structure ES (w : World) (c : Con) (g gt : Nat) (P k : Nat) (da db : Nat → Nat) (a1 a2 a5 a6 : Option Addr) (k1 k2 : Nat) (W : World) : Prop where
  bel : Below w.heap.size w W
  box : Box W w.heap.size c
  dbx : W.heap[g]? = some (.cells (dlA a1 k1 a2 k2 k P P) 27)
  s1 : Sl W a1 (rowN da k)
  s2 : Sl W a2 (rowN db k)
  s5 : Sl W a5 (vN (iA c.es c.es.length))
  s6 : Sl W a6 (vN (iB c.es c.es.length))
  wg : w.heap.size < g ∧ g < gt
  b1 : ∀ x, a1 = some x → x.block < gt
  b2 : ∀ x, a2 = some x → x.block < gt
  b5 : ∀ x, a5 = some x → x.block < gt
  b6 : ∀ x, a6 = some x → x.block < gt
theorem ES.only {S : Nat → Prop} {w : World} {c : Con} {g gt P k : Nat} {da db : Nat → Nat} {a1 a2 a5 a6 : Option Addr} {k1 k2 : Nat} {W W' : World} (h : ES w c g gt P k da db a1 a2 a5 a6 k1 k2 W) (ho : Only S W W') (hS : ∀ x, S x → gt ≤ x) : ES w c g gt P k da db a1 a2 a5 a6 k1 k2 W' :=
  ⟨h.bel.trans (ho.below h.bel.size (fun x hx => by have := hS x hx; have := h.wg; omega)), ho.row h.box (fun hs => by have := hS _ hs; have := h.wg; omega), ho.row h.dbx (fun hs => by have := hS _ hs; have := h.wg; omega),
    ho.sl h.s1 (fun x e _ hs => by have := hS _ hs; have := h.b1 x e; omega), ho.sl h.s2 (fun x e _ hs => by have := hS _ hs; have := h.b2 x e; omega), ho.sl h.s5 (fun x e _ hs => by have := hS _ hs; have := h.b5 x e; omega), ho.sl h.s6 (fun x e _ hs => by have := hS _ hs; have := h.b6 x e; omega), h.wg, h.b1, h.b2, h.b5, h.b6⟩
theorem ES.below {w : World} {c : Con} {g gt P k : Nat} {da db : Nat → Nat} {a1 a2 a5 a6 : Option Addr} {k1 k2 : Nat} {W W' : World} (h : ES w c g gt P k da db a1 a2 a5 a6 k1 k2 W) (hb : Below W.heap.size W W') : ES w c g gt P k da db a1 a2 a5 a6 k1 k2 W' :=
  h.only (S := fun _ => False) (Only.of_below hb) (fun x hx => absurd hx id)
theorem iA_item (es : List Ent) : ∀ k, ∀ i ∈ iA es k, (entN es i).item ≠ 0
  | 0, i, h => by cases h
  | k + 1, i, h => by
    rw [iA] at h
    rcases List.mem_append.1 h with h | h
    · exact iA_item es k i h
    · split at h
      · cases h
      · rename_i hi
        rw [List.mem_singleton] at h; subst h; exact hi
theorem iB_item (es : List Ent) : ∀ k, ∀ i ∈ iB es k, (entN es i).item = 0
  | 0, i, h => by cases h
  | k + 1, i, h => by
    rw [iB] at h
    rcases List.mem_append.1 h with h | h
    · exact iB_item es k i h
    · split at h
      · rename_i hi
        rw [List.mem_singleton] at h; subst h; exact hi
      · cases h
theorem getD_mem (l : List Nat) (k : Nat) (h : k < l.length) : l.getD k 0 ∈ l := by
  rw [List.getD_eq_getElem?_getD, List.getElem?_eq_getElem h]; exact List.getElem_mem h
theorem iAB_ne (es : List Ent) (n a b : Nat) (ha : a < (iA es n).length) (hb : b < (iB es n).length) : (iA es n).getD a 0 ≠ (iB es n).getD b 0 := fun e =>
  iA_item es n _ (getD_mem _ a ha) (e ▸ iB_item es n _ (getD_mem _ b hb))
theorem Rb.setC {W : World} {g n k : Nat} {D : Nat → Bool} (h : Rb W g n D) (hk : k < n) : Rb (W.setCell ⟨g, k, none⟩ (.bool true)) g n (updB D k) := by
  have e := heap_setCell_same _ _ k _ _ (.bool true) h
  unfold Rb
  rw [e, List.setIfInBounds_toArray]
  congr 3
  apply List.ext_getElem
  · rw [List.length_set, rowB_len, rowB_len]
  · intro i h1 h2
    have e1 : (rowB (updB D k) n)[i] = Value.bool (updB D k i) := by simp [rowB]
    have e2 : ∀ h, (rowB D n)[i]'h = Value.bool (D i) := fun h => by simp [rowB]
    rw [List.getElem_set, e1]
    unfold updB
    by_cases e : k = i
    · rw [if_pos e, if_pos e.symm]
    · rw [if_neg e, e2, if_neg (fun h => e h.symm)]
theorem only_setC (W : World) (g k : Nat) (v : Value) : Only (fun x => x = g) W (W.setCell ⟨g, k, none⟩ v) := Only.of_grown (grown_set (grown_below (Below.refl _ _) _) k v) (fun x hx => by injection hx with e; exact e.symm)
/-- The same with the list of gifts, and who has dealt; the blocks N stay. -/
structure PX (w : World) (c : Con) (g gt P k : Nat) (da db : Nat → Nat) (a1 a2 a5 a6 : Option Addr) (k1 k2 : Nat) (N : Nat → Prop) (l : List Gi) (D : Nat → Bool) (W : World) : Prop where
  es : ES w c g gt P k da db a1 a2 a5 a6 k1 k2 W
  gb : GB gt (gt + 2) N l W
  rb : Rb W (gt + 1) c.es.length D
  sz : gt + 2 ≤ W.heap.size
  nb : ∀ b, N b → gt + 2 ≤ b ∧ b < W.heap.size
section
variable {w : World} {c : Con} {g gt P k : Nat} {da db : Nat → Nat} {a1 a2 a5 a6 : Option Addr} {k1 k2 : Nat} {N : Nat → Prop} {l l' : List Gi} {D : Nat → Bool} {W W' : World}
theorem PX.step (h : PX w c g gt P k da db a1 a2 a5 a6 k1 k2 N l D W) (hg : GB gt (gt + 2) N l' W' ∧ Only (fun x => x = gt ∨ (gt + 2 ≤ x ∧ ¬ N x)) W W') : PX w c g gt P k da db a1 a2 a5 a6 k1 k2 N l' D W' :=
  ⟨h.es.only hg.2 (fun x hx => by rcases hx with e | e <;> omega), hg.1, hg.2.row h.rb (fun e => by rcases e with e | e <;> omega), Nat.le_trans h.sz hg.2.size, fun b hb => ⟨(h.nb b hb).1, Nat.lt_of_lt_of_le (h.nb b hb).2 hg.2.size⟩⟩
theorem PX.stepRow (h : PX w c g gt P k da db a1 a2 a5 a6 k1 k2 N l D W) (hg : GB gt (gt + 2) N l' W' ∧ Only (fun x => x = gt ∨ (gt + 2 ≤ x ∧ ¬ N x)) W W') {b : Nat} {o : Obj} (hb : N b) (hr : W.heap[b]? = some o) : W'.heap[b]? = some o :=
  hg.2.row hr (fun e => by have := (h.nb b hb).1; rcases e with e | e; omega; exact e.2 hb)
theorem PX.new {M : Nat → Prop} (h : PX w c g gt P k da db a1 a2 a5 a6 k1 k2 N l D W) (hb : Below W.heap.size W W') (hM : ∀ b, M b → W.heap.size ≤ b ∧ b < W'.heap.size) : PX w c g gt P k da db a1 a2 a5 a6 k1 k2 M l D W' :=
  ⟨h.es.below hb, h.gb.newN hb (fun b hb' => (hM b hb').1), row_kept h.rb hb, Nat.le_trans h.sz hb.size, fun b hb' => ⟨Nat.le_trans h.sz (hM b hb').1, (hM b hb').2⟩⟩
theorem PX.set {D' : Nat → Bool} (h : PX w c g gt P k da db a1 a2 a5 a6 k1 k2 N l D W) (ho : Only (fun x => x = gt + 1) W W') (hr : Rb W' (gt + 1) c.es.length D') : PX w c g gt P k da db a1 a2 a5 a6 k1 k2 (fun _ => False) l D' W' :=
  ⟨h.es.only ho (fun x e => by omega), (h.gb.only ho (by omega) (fun x e => by omega)).noN, hr, Nat.le_trans h.sz ho.size, fun b hb => absurd hb id⟩
theorem PX.noN (h : PX w c g gt P k da db a1 a2 a5 a6 k1 k2 N l D W) : PX w c g gt P k da db a1 a2 a5 a6 k1 k2 (fun _ => False) l D W := ⟨h.es, h.gb.noN, h.rb, h.sz, fun b hb => absurd hb id⟩
theorem PX.cells (h : PX w c g gt P k da db a1 a2 a5 a6 k1 k2 N l D W) : W.cell? ⟨g, 2, none⟩ = some (.int .u64 P) ∧ W.cell? ⟨g, 3, none⟩ = some (.int .u64 P) ∧ W.cell? ⟨g, 1, none⟩ = some (.slice a2 k k2) := by
  have e := h.es.dbx
  exact ⟨by rw [cell_of_row _ _ _ _ _ _ e]; rfl, by rw [cell_of_row _ _ _ _ _ _ e]; rfl, by rw [cell_of_row _ _ _ _ _ _ e]; rfl⟩
end
set_option maxRecDepth 100000 in
set_option maxHeartbeats 8000000 in
theorem end_any (c : Con) (w : World) (hc : ConOk w c) (hn : c.es.length ≤ 5000) : Calls Try.prog 29 #[c.agg] w (EndAns w c) := by
  have HC := Lib.hid hc
  have HN := Lib.hid hn
  have hmb := make70 c.es.length (by omega)
  clear hc
  have HBX := Lib.hid (show Box (w.alloc (.cells #[.int .i64 c.num, .int .i64 c.kind, .int .i64 c.by', .int .i64 c.dl, .int .i64 c.to', .int .i64 c.want, .int .u64 c.price, .int .u64 c.reserve, .int .u64 c.step, .int .i64 c.of', .slice c.ea c.es.length c.ec] 51)) w.heap.size c from alloc_at rfl)
  have z10 := HBX.out.cells.2.2.2.2.2.2.2.2.2.2
  unfold Con.agg
  go_enter Try.func29, Try.ntmps29
  go_wp2
  clear z10
  go_loopw [3, 4, 5, 6, 7, 8, 22] (fun v3' v4' v5' v6' s7 s8 i wr => ∃ (k : Nat) (v3 v4 v5 v6 : Value), v3 = v3' ∧ v4 = v4' ∧ v5 = v5' ∧ v6 = v6' ∧ k ≤ c.es.length ∧ i = .int .i64 k ∧ EI1 w c k v3 v4 v5 v6 wr) (fun _ _ _ _ _ _ i _ => c.es.length - (intOf i).toNat)
  case atStart =>
    refine ⟨0, _, _, _, _, rfl, rfl, rfl, rfl, by omega, rfl, ?_⟩
    exact ⟨(Below.refl _ _).alloc (Nat.le_refl _) _, HBX.out, World.ownsRow_nil _ _ _ _, World.ownsRow_nil _ _ _ _, World.ownsRow_nil _ _ _ _, World.ownsRow_nil _ _ _ _, (fun b hb => by cases hb), (fun b hb => by cases hb)⟩
  case round =>
    clear HBX
    obtain ⟨k, v3, v4, v5, v6, e3, e4, e5, e6, hk, rfl, hi⟩ := hrel
    subst e3 e4 e5 e6
    have HI := Lib.hid hi
    clear hi
    by_cases hlt : k < c.es.length
    · have t0 : decide ((k : Int) < (c.es.length : Int)) = true := by simp; omega
      have i1 : (k : Int) < (c.es.length : Int) := by omega
      obtain ⟨ob, oo, hea, f0, f1, f2, f3, f4⟩ := ent_at ((HC.out.kept HI.out.bel).sl) k hlt
      rw [hea]
      have HEW := Lib.hid (HC.out.ents _ (List.getElem_mem hlt))
      have HXE := Lib.hid (entN_get c.es k hlt)
      have HLA := Lib.hid (iA_le c.es k)
      have HLB := Lib.hid (iB_le c.es k)
      generalize c.es[k] = x at *
      obtain ⟨xa, xi, xc, xp, xw, xk, xs⟩ := x
      simp only at f0 f1 f2 f3 f4
      have HSZ := Lib.hid (show w.heap.size + 1 ≤ wr.heap.size from HI.out.box.lt)
      clear hea
      have HEB := Lib.hid (show Below wr.heap.size wr (wr.alloc (.cells #[.int .i64 xa, .int .i64 xi, .int .u64 xc, .int .u64 xp, .slice xw xs.length xk] 53)) from (Below.refl _ _).alloc (Nat.le_refl _) _)
      go_upto_region 6 with ((with_reducible refine at_store_op ?_); refine wpList_store_lit 53 wr.heap.size 0 #[.int .i64 xa, .int .i64 xi, .int .u64 xc, .int .u64 xp, .slice xw xs.length xk] (.agg #[.int .i64 xa, .int .i64 xi, .int .u64 xc, .int .u64 xp, .slice xw xs.length xk]) (alloc_at rfl) szE (Nat.le_of_ble_eq_true rfl) rfl rfl ?_ ?_ ?_; exact rfl; exact rfl; intro w3 hp3)
      have HB3 := Lib.hid (show Below wr.heap.size wr w3 from hp3.below ((Below.refl wr.heap.size wr).alloc (Nat.le_refl _) _) ((Below.refl wr.heap.size wr).alloc (Nat.le_refl _) _).size (Nat.le_refl _))
      obtain ⟨e0, e1, e2, e3, e4⟩ := cells5 hp3.at'
      have HI3 := Lib.hid (HI.out.below HB3.out)
      have HS3 := Lib.hid HB3.out.size
      clear hp3 f0 f1 f2 f3 f4 HI
      by_cases h0 : xi = 0
      case pos =>
        have c0 : (xi != 0) = false := by simpa using h0
        have HX0 := Lib.hid (show (entN c.es k).item = 0 from by rw [HXE.out]; exact h0)
        clear h0
        have B1 := Lib.hid (show (iB c.es k).length + 1 ≤ maxLen by have := HLB.out; unfold maxLen; omega)
        have B2 := Lib.hid (show ((iB c.es k).length + 1) * 8 ≤ 140737488355328 by have := HLB.out; omega)
        go_wp2_with (at_builtin; refine wpList_append_sl_at rfl _ _ 22 rfl (w.heap.size + 1) 23 (.int .u64 0) 1 8 Try.underlying22 Try.info23 rfl (by decide) v4 _ (vQ (qB c.es k)) rfl (HI3.out.r4.alloc (.cells #[.int .u64 xc] 23)) (some ⟨w3.heap.size, 0, none⟩) 1 1 [.int .u64 xc] rfl (fun h => by cases h) rfl (sl_new _ _ _ _) (one_u64 xc) B1.out B2.out ?a1 ?a2)
        case a1 => have h1 := HSZ.out; have h2 := HS3.out; simp only [World.size_alloc]; omega
        intro u4 w4 ho4 hg4 hl4
        have HA4 := Lib.hid (And.intro ho4 (And.intro hg4 hl4))
        have hb5 := (Below.refl w4.heap.size w4).alloc (Nat.le_refl _) (.cells #[.int .i64 (k : Int)] 3)
        have HI6 := Lib.hid (show (w4.alloc (.cells #[.int .i64 (k : Int)] 3)).ownsRow (w.heap.size + 1) 3 1 v6 (iB c.es k).length (vN (iB c.es k)) from owns_below (B := 0) (((HI3.out.r6.alloc (.cells #[.int .u64 xc] 23)).kept hg4 (owns_apart (HI3.out.r6.alloc (.cells #[.int .u64 xc] 23)) (HI3.out.r4.alloc _) (by decide)))) hb5)
        have HS4 := Lib.hid hg4.size
        clear ho4 hg4 hl4 e0 e1 e2 e3 e4
        go_wp2_with (at_builtin; refine wpList_append_sl_at rfl _ _ 24 rfl (w.heap.size + 1) 3 (.int .i64 0) 1 8 Try.underlying24 infoI rfl (by decide) v6 _ (vN (iB c.es k)) rfl HI6.out (some ⟨w4.heap.size, 0, none⟩) 1 1 [.int .i64 (k : Int)] rfl (fun h => by cases h) rfl (sl_new _ _ _ _) (one_int _ _) B1.out B2.out ?b1 ?b2)
        case b1 => have h1 := HSZ.out; have h2 := HS3.out; have h3 := HS4.out; simp only [World.size_alloc] at h3 ⊢; omega
        intro u6 w6 ho6 hg6 hl6
        have HF := Lib.hid (show EI1 w c (k + 1) v3 u4 v5 u6 w6 from HI3.out.bid HX0.out ((Below.refl _ _).alloc (Nat.le_refl _) (.cells #[.int .u64 xc] 23)) (by rw [HXE.out]; exact HA4.out.1) HA4.out.2.1 (by rw [World.size_alloc]; exact HA4.out.2.2) hb5 ho6 hg6 (by rw [World.size_alloc]; exact hl6) (by rw [HXE.out]; exact HEW.out.cw))
        clear ho6 hg6 hl6 hb5
        go_wp2
        go_roundw
        case rel => exact ⟨k + 1, _, _, _, _, rfl, rfl, rfl, rfl, by omega, by go_num, HF.out⟩
        case measure => simp [intOf]; omega
      case neg =>
        have c0 : (xi != 0) = true := by simpa using h0
        have HX0 := Lib.hid (show (entN c.es k).item ≠ 0 from by rw [HXE.out]; exact h0)
        clear h0
        have B1 := Lib.hid (show (iA c.es k).length + 1 ≤ maxLen by have := HLA.out; unfold maxLen; omega)
        have B2 := Lib.hid (show ((iA c.es k).length + 1) * 8 ≤ 140737488355328 by have := HLA.out; omega)
        go_wp2_with (at_builtin; refine wpList_append_sl_at rfl _ _ 22 rfl (w.heap.size + 1) 23 (.int .u64 0) 1 8 Try.underlying22 Try.info23 rfl (by decide) v3 _ (vQ (qA c.es k)) rfl (HI3.out.r3.alloc (.cells #[.int .u64 xp] 23)) (some ⟨w3.heap.size, 0, none⟩) 1 1 [.int .u64 xp] rfl (fun h => by cases h) rfl (sl_new _ _ _ _) (one_u64 xp) B1.out B2.out ?c1 ?c2)
        case c1 => have h1 := HSZ.out; have h2 := HS3.out; simp only [World.size_alloc]; omega
        intro u3 w4 ho4 hg4 hl4
        have HA4 := Lib.hid (And.intro ho4 (And.intro hg4 hl4))
        have hb5 := (Below.refl w4.heap.size w4).alloc (Nat.le_refl _) (.cells #[.int .i64 (k : Int)] 3)
        have HI6 := Lib.hid (show (w4.alloc (.cells #[.int .i64 (k : Int)] 3)).ownsRow (w.heap.size + 1) 3 1 v5 (iA c.es k).length (vN (iA c.es k)) from owns_below (B := 0) (((HI3.out.r5.alloc (.cells #[.int .u64 xp] 23)).kept hg4 (owns_apart (HI3.out.r5.alloc (.cells #[.int .u64 xp] 23)) (HI3.out.r3.alloc _) (by decide)))) hb5)
        have HS4 := Lib.hid hg4.size
        clear ho4 hg4 hl4 e0 e1 e2 e3 e4
        go_wp2_with (at_builtin; refine wpList_append_sl_at rfl _ _ 24 rfl (w.heap.size + 1) 3 (.int .i64 0) 1 8 Try.underlying24 infoI rfl (by decide) v5 _ (vN (iA c.es k)) rfl HI6.out (some ⟨w4.heap.size, 0, none⟩) 1 1 [.int .i64 (k : Int)] rfl (fun h => by cases h) rfl (sl_new _ _ _ _) (one_int _ _) B1.out B2.out ?d1 ?d2)
        case d1 => have h1 := HSZ.out; have h2 := HS3.out; have h3 := HS4.out; simp only [World.size_alloc] at h3 ⊢; omega
        intro u5 w6 ho6 hg6 hl6
        have HF := Lib.hid (show EI1 w c (k + 1) u3 v4 u5 v6 w6 from HI3.out.ask HX0.out ((Below.refl _ _).alloc (Nat.le_refl _) (.cells #[.int .u64 xp] 23)) (by rw [HXE.out]; exact HA4.out.1) HA4.out.2.1 (by rw [World.size_alloc]; exact HA4.out.2.2) hb5 ho6 hg6 (by rw [World.size_alloc]; exact hl6) (by rw [HXE.out]; exact HEW.out.pw))
        clear ho6 hg6 hl6 hb5
        go_wp2
        go_roundw
        case rel => exact ⟨k + 1, _, _, _, _, rfl, rfl, rfl, rfl, by omega, by go_num, HF.out⟩
        case measure => simp [intOf]; omega
    · have t0 : decide ((k : Int) < (c.es.length : Int)) = false := by simp; omega
      obtain rfl : k = c.es.length := by omega
      obtain ⟨a3, c3, rfl, _, hs3, _⟩ := app_slice (show wr.ownsRow (w.heap.size + 1) 23 1 v3 (qA c.es c.es.length).length (vQ (qA c.es c.es.length)) from by rw [qA_len]; exact HI.out.r3) (vQ_length _)
      obtain ⟨a4, c4, rfl, _, hs4, _⟩ := app_slice (show wr.ownsRow (w.heap.size + 1) 23 1 v4 (qB c.es c.es.length).length (vQ (qB c.es c.es.length)) from by rw [qB_len]; exact HI.out.r4) (vQ_length _)
      obtain ⟨a5, c5, rfl, _, hs5, _⟩ := app_slice HI.out.r5 (vN_length _)
      obtain ⟨a6, c6, rfl, _, hs6, _⟩ := app_slice HI.out.r6 (vN_length _)
      have K8 := Lib.hid (clear_any (qA c.es c.es.length) (qB c.es c.es.length) a3 a4 c3 c4 wr (by have := iA_le c.es c.es.length; rw [qA_len]; omega) (by have := iB_le c.es c.es.length; rw [qB_len]; omega) hs3 hs4)
      have H5 := Lib.hid (And.intro hs5 (fun x (e : a5 = some x) hv => hs5.lt x e hv))
      have H6 := Lib.hid (And.intro hs6 (fun x (e : a6 = some x) hv => hs6.lt x e hv))
      have HI5 := Lib.hid (And.intro HI.out.r5 HI.out.r6)
      have HBL := Lib.hid HI.out.bel
      have HBO := Lib.hid HI.out.box
      clear hs3 hs4 hs5 hs6 hk HI hlt
      go_wp2_with fail
      refine K8.out.mono ?_
      rintro r0 w2 ⟨v, rfl, ⟨da, db, k, hza, hzb, hkv, hdv⟩, hb2⟩
      obtain ⟨P, hP⟩ : ∃ P, P = priceV (qA c.es c.es.length) (qB c.es c.es.length) da db k := ⟨_, rfl⟩
      rw [← hP] at hdv
      obtain ⟨a1, k1, a2, k2, M, rfl, hM, ho1, hlt1, ho2⟩ := hdv
      have HZ := Lib.hid (And.intro hza (And.intro hzb hkv))
      have HP := Lib.hid hP
      have HO1 := Lib.hid ho1
      have HO2 := Lib.hid ho2
      have HB2 := Lib.hid hb2
      clear hza hzb hkv hP hM ho1 hlt1 ho2 hb2 K8
      go_upto_region 11 with ((with_reducible refine at_store_op ?_); refine wpList_store_lit 27 w2.heap.size 0 (dlA a1 k1 a2 k2 k P P) (.agg (dlA a1 k1 a2 k2 k P P)) (alloc_at rfl) sz27 (Nat.le_of_ble_eq_true rfl) rfl rfl ?_ ?_ ?_; exact rfl; exact rfl; intro w3 hp3)
      have HB3 := Lib.hid (show Below w2.heap.size w2 w3 from hp3.below ((Below.refl w2.heap.size w2).alloc (Nat.le_refl _) _) ((Below.refl w2.heap.size w2).alloc (Nat.le_refl _) _).size (Nat.le_refl _))
      have HD3 := Lib.hid hp3.at'
      have HBX3 := Lib.hid ((HBO.out.kept HB2.out).kept HB3.out)
      have z10 := HBX3.out.cellsA.2.2.2.2.2.2.2.2.2.2
      clear hp3
      go_upto_region 14 with fail
      obtain ⟨g, hg⟩ : ∃ g, g = w2.heap.size := ⟨_, rfl⟩
      obtain ⟨gt, hgt⟩ : ∃ gt, gt = w3.heap.size := ⟨_, rfl⟩
      rw [← hg, ← hgt]
      obtain ⟨A, hA⟩ : ∃ A : Nat → Nat, A = fun i => (iA c.es c.es.length).getD (da i) 0 := ⟨_, rfl⟩
      obtain ⟨B, hB⟩ : ∃ B : Nat → Nat, B = fun i => (iB c.es c.es.length).getD (db i) 0 := ⟨_, rfl⟩
      have HAB := Lib.hid (And.intro hA hB)
      have HBM := Lib.hid (HB2.out.trans (HB3.out.mono HB2.out.size))
      have HGT := Lib.hid (show w.heap.size < g ∧ g < gt by have h1 := lt_row HD3.out; have h2 := HB2.out.size; have h3 := HBO.out.lt; omega)
      have HE3 := Lib.hid (show ES w c g gt P k da db a1 a2 a5 a6 k1 k2 w3 from
        ⟨HBL.out.trans (HBM.out.mono HBL.out.size), HBX3.out, by rw [hg]; exact HD3.out, (owns_sl HO1.out (rowN_length _ _)).kept HB3.out, (owns_sl HO2.out (rowN_length _ _)).kept HB3.out, (H5.out.1.kept HB2.out).kept HB3.out, (H6.out.1.kept HB2.out).kept HB3.out, HGT.out,
          fun x e => by have := own_blk HO1.out x e; have := HB3.out.size; omega, fun x e => by have := own_blk HO2.out x e; have := HB3.out.size; omega, fun x e => by have := own_blk HI5.out.1 x e; have := HB3.out.size; have := HB2.out.size; omega, fun x e => by have := own_blk HI5.out.2 x e; have := HB3.out.size; have := HB2.out.size; omega⟩)
      refine wp_world (fun W => ES w c g gt P k da db a1 a2 a5 a6 k1 k2 W ∧ GB gt (gt + 2) (fun _ => False) (endD c.es A B P 0) W ∧ Rb W (gt + 1) c.es.length (dlt A B 0) ∧ gt + 2 ≤ W.heap.size)
        ⟨HE3.out.below (((Below.refl _ _).alloc (Nat.le_refl _) _).alloc (by simp) _), ⟨none, 0, alloc_old (alloc_at hgt), World.ownsRow_nil _ _ _ _, fun b hb => by cases hb⟩, alloc_at (by simp [hgt]), by simp [hgt]⟩ ?_
      rintro W ⟨hE, hG, hR, hW⟩
      have HF0 := Lib.hid (And.intro hE (And.intro hG (And.intro hR hW)))
      have zd : W.cell? ⟨g, 0, none⟩ = some (.slice a1 k k1) := by rw [cell_of_row _ _ _ _ _ _ hE.dbx]; rfl
      clear hE hG hR hW hg hgt hA hB z10 HE3 HBM HBX3 HD3 HB3 HBO HO1 HO2 HB2 H5 H6 HI5 HBL hmb
      go_wp2
      clear zd
      go_loopw [13, 14, 15, 16, 60] (fun s13 s14 s15 s16 i wr => ∃ j : Nat, j ≤ k ∧ i = .int .i64 j ∧ PX w c g gt P k da db a1 a2 a5 a6 k1 k2 (fun _ => False) (endD c.es A B P j) (dlt A B j) wr) (fun _ _ _ _ i _ => k - (intOf i).toNat)
      case atStart => exact ⟨0, Nat.zero_le _, rfl, HF0.out.1, HF0.out.2.1, HF0.out.2.2.1, HF0.out.2.2.2, fun b hb => absurd hb id⟩
      case round =>
        clear HF0
        obtain ⟨j, hj, rfl, hE⟩ := hrel
        have HPX := Lib.hid hE
        have HES := Lib.hid hE.es
        clear hE
        by_cases hlt : j < k
        · have t0 : decide ((j : Int) < (k : Int)) = true := by simp; omega
          have i1 : (j : Int) < (k : Int) := by omega
          have ha : da j < (iA c.es c.es.length).length := by have := rankz_lt HZ.out.1 (show j < (qA c.es c.es.length).length by have := HZ.out.2.2.1; omega); rw [qA_len] at this; exact this
          have hb : db j < (iB c.es c.es.length).length := by have := rankz_lt HZ.out.2.1 (show j < (qB c.es c.es.length).length by have := HZ.out.2.2.2.1; omega); rw [qB_len] at this; exact this
          have i2 : (da j : Int) < ((iA c.es c.es.length).length : Int) := by omega
          have i3 : (db j : Int) < ((iB c.es c.es.length).length : Int) := by omega
          obtain ⟨b1, o1, e1, y1⟩ := rowN_sl_at HES.out.s1 j hlt
          obtain ⟨b2, o2, e2, y2⟩ := rowN_sl_at HES.out.s2 j hlt
          obtain ⟨b5, o5, e5, y5⟩ := vN_at HES.out.s5 (da j) ha
          obtain ⟨b6, o6, e6, y6⟩ := vN_at HES.out.s6 (db j) hb
          have HAL := Lib.hid (iA_getD_lt c.es c.es.length (da j) ha)
          have HBLT := Lib.hid (iB_getD_lt c.es c.es.length (db j) hb)
          subst e1 e2 e5 e6
          obtain ⟨aj, haj⟩ : ∃ aj, aj = (iA c.es c.es.length).getD (da j) 0 := ⟨_, rfl⟩
          obtain ⟨bj, hbj⟩ : ∃ bj, bj = (iB c.es c.es.length).getD (db j) 0 := ⟨_, rfl⟩
          rw [← haj] at y5 HAL
          rw [← hbj] at y6 HBLT
          have i4 : (aj : Int) < (c.es.length : Int) := by have := HAL.out; omega
          have i5 : (bj : Int) < (c.es.length : Int) := by have := HBLT.out; omega
          obtain ⟨ob, oo, hea, f0, f1, f2, f3, f4⟩ := ent_at ((HC.out.kept HES.out.bel).sl) aj HAL.out
          obtain ⟨ob', oo', hea', g0, g1, g2, g3, g4⟩ := ent_at ((HC.out.kept HES.out.bel).sl) bj HBLT.out
          rw [hea] at hea'
          injection hea' with hea'
          injection hea' with q1 q2
          subst q1 q2
          have HEW := Lib.hid (And.intro (HC.out.ents _ (List.getElem_mem HAL.out)) (HC.out.ents _ (List.getElem_mem HBLT.out)))
          have HXE := Lib.hid (And.intro (entN_get c.es aj HAL.out) (entN_get c.es bj HBLT.out))
          generalize c.es[aj] = x at *
          generalize c.es[bj] = y at *
          obtain ⟨xa, xi, xc, xp, xw, xk, xs⟩ := x
          obtain ⟨ya, yi, yc, yp, yw, yk, ys⟩ := y
          simp only at f0 f1 f2 f3 f4 g0 g1 g2 g3 g4
          have HJ := Lib.hid (And.intro haj hbj)
          have HLT := Lib.hid hlt
          have zb := HES.out.box.cells.2.2.2.2.2.2.2.2.2.2
          rw [hea] at zb
          have zd : wr.cell? ⟨g, 1, none⟩ = some (.slice (some ⟨b2, o2, none⟩) k k2) := by rw [cell_of_row _ _ _ _ _ _ HES.out.dbx]; rfl
          have HYS := Lib.hid (fun V (h : ES w c g gt P k da db (some ⟨b1, o1, none⟩) (some ⟨b2, o2, none⟩) (some ⟨b5, o5, none⟩) (some ⟨b6, o6, none⟩) k1 k2 V) => show V.cell? ⟨b5, o5 + da j, none⟩ = some (.int .i64 (aj : Int)) ∧ V.cell? ⟨g, 1, none⟩ = some (.slice (some ⟨b2, o2, none⟩) k k2) ∧ V.cell? ⟨b2, o2 + j, none⟩ = some (.int .i64 (db j : Int)) ∧ V.cell? ⟨b6, o6 + db j, none⟩ = some (.int .i64 (bj : Int)) from by
            obtain ⟨_, _, q2, r2⟩ := rowN_sl_at h.s2 j hlt
            obtain ⟨_, _, q5, r5⟩ := vN_at h.s5 (da j) ha
            obtain ⟨_, _, q6, r6⟩ := vN_at h.s6 (db j) hb
            cases q2; cases q5; cases q6
            rw [haj, hbj]
            exact ⟨r5, by rw [cell_of_row _ _ _ _ _ _ h.dbx]; rfl, r2, r6⟩)
          have HNAB := Lib.hid (show aj ≠ bj from by rw [haj, hbj]; exact iAB_ne c.es _ _ _ ha hb)
          clear haj hbj hlt hj ha hb hea
          go_upto_region 17 with fail
          go_cut [15, 16] (fun s15 s16 W' => ∃ px py : Nat, s15 = .pointer (some ⟨px, 0, none⟩) ∧ s16 = .pointer (some ⟨py, 0, none⟩) ∧ Below wr.heap.size wr W' ∧ wr.heap.size ≤ px ∧ wr.heap.size ≤ py ∧
            W'.heap[px]? = some (.cells #[.int .i64 xa, .int .i64 xi, .int .u64 xc, .int .u64 xp, .slice xw xs.length xk] 53) ∧ W'.heap[py]? = some (.cells #[.int .i64 ya, .int .i64 yi, .int .u64 yc, .int .u64 yp, .slice yw ys.length yk] 53))
          case first =>
            have HCEL := Lib.hid (fun V (h : Below wr.heap.size wr V) => show V.cell? ⟨w.heap.size, 10, none⟩ = some (.slice (some ⟨ob, oo, none⟩) c.es.length c.ec) ∧ V.cell? ⟨b5, o5 + da j, none⟩ = some (.int .i64 (aj : Int)) ∧ V.cell? ⟨ob, oo + aj * 5, none⟩ = some (.int .i64 xa) ∧ V.cell? ⟨ob, oo + aj * 5 + 1, none⟩ = some (.int .i64 xi) ∧ V.cell? ⟨ob, oo + aj * 5 + 2, none⟩ = some (.int .u64 xc) ∧ V.cell? ⟨ob, oo + aj * 5 + 3, none⟩ = some (.int .u64 xp) ∧ V.cell? ⟨ob, oo + aj * 5 + 4, none⟩ = some (.slice xw xs.length xk) ∧
              V.cell? ⟨g, 1, none⟩ = some (.slice (some ⟨b2, o2, none⟩) k k2) ∧ V.cell? ⟨b2, o2 + j, none⟩ = some (.int .i64 (db j : Int)) ∧ V.cell? ⟨b6, o6 + db j, none⟩ = some (.int .i64 (bj : Int)) ∧ V.cell? ⟨ob, oo + bj * 5, none⟩ = some (.int .i64 ya) ∧ V.cell? ⟨ob, oo + bj * 5 + 1, none⟩ = some (.int .i64 yi) ∧ V.cell? ⟨ob, oo + bj * 5 + 2, none⟩ = some (.int .u64 yc) ∧ V.cell? ⟨ob, oo + bj * 5 + 3, none⟩ = some (.int .u64 yp) ∧ V.cell? ⟨ob, oo + bj * 5 + 4, none⟩ = some (.slice yw ys.length yk) from
              ⟨below_cell h zb, below_cell h y5, below_cell h f0, below_cell h f1, below_cell h f2, below_cell h f3, below_cell h f4, below_cell h zd, below_cell h y2, below_cell h y6, below_cell h g0, below_cell h g1, below_cell h g2, below_cell h g3, below_cell h g4⟩)
            have HD0 := Lib.hid (show Below wr.heap.size wr wr.drew from below_drawn (Below.refl _ _) _)
            have HZS := Lib.hid (show wr.heap.size ≤ wr.drew.heap.size from Nat.le_refl _)
            go_region_held3 (fun V => V.cell? ⟨w.heap.size, 10, none⟩ = some (.slice (some ⟨ob, oo, none⟩) c.es.length c.ec) ∧ V.cell? ⟨b5, o5 + da j, none⟩ = some (.int .i64 (aj : Int)) ∧ V.cell? ⟨ob, oo + aj * 5, none⟩ = some (.int .i64 xa) ∧ V.cell? ⟨ob, oo + aj * 5 + 1, none⟩ = some (.int .i64 xi) ∧ V.cell? ⟨ob, oo + aj * 5 + 2, none⟩ = some (.int .u64 xc) ∧ V.cell? ⟨ob, oo + aj * 5 + 3, none⟩ = some (.int .u64 xp) ∧ V.cell? ⟨ob, oo + aj * 5 + 4, none⟩ = some (.slice xw xs.length xk) ∧
              V.cell? ⟨g, 1, none⟩ = some (.slice (some ⟨b2, o2, none⟩) k k2) ∧ V.cell? ⟨b2, o2 + j, none⟩ = some (.int .i64 (db j : Int)) ∧ V.cell? ⟨b6, o6 + db j, none⟩ = some (.int .i64 (bj : Int)) ∧ V.cell? ⟨ob, oo + bj * 5, none⟩ = some (.int .i64 ya) ∧ V.cell? ⟨ob, oo + bj * 5 + 1, none⟩ = some (.int .i64 yi) ∧ V.cell? ⟨ob, oo + bj * 5 + 2, none⟩ = some (.int .u64 yc) ∧ V.cell? ⟨ob, oo + bj * 5 + 3, none⟩ = some (.int .u64 yp) ∧ V.cell? ⟨ob, oo + bj * 5 + 4, none⟩ = some (.slice yw ys.length yk))
              (first | assumption | exact HCEL.out _ HD0.out | exact HCEL.out _ (HD0.out.alloc HZS.out _) | exact HCEL.out _ ((HD0.out.alloc HZS.out _).alloc (by simp) _))
              (fail)
            all_goals
              go_wp2_with fail
              go_meet
              first
                | exact ⟨_, _, rfl, rfl, below_drawn (((Below.refl _ _).alloc (Nat.le_refl _) _).alloc (by simp) _) _, Nat.le_refl _, Nat.le_succ _, alloc_old (alloc_at rfl), alloc_at (by simp)⟩
                | exact ⟨_, _, rfl, rfl, below_drawn (((Below.refl _ _).alloc (Nat.le_refl _) _).alloc (by simp) _) _, Nat.le_succ _, Nat.le_refl _, alloc_at (by simp), alloc_old (alloc_at rfl)⟩
          case rest =>
            clear zb zd y1 y2 y5 y6 f0 f1 f2 f3 f4 g0 g1 g2 g3 g4
            obtain ⟨px, py, rfl, rfl, hbc, hpx, hpy, hx, hy⟩ := hcut
            have HP1 := Lib.hid (HPX.out.new (M := fun b => b = px ∨ b = py) hbc (fun b e => by have h1 := lt_row hx; have h2 := lt_row hy; rcases e with rfl | rfl <;> omega))
            have HX := Lib.hid hx
            have HY := Lib.hid hy
            obtain ⟨x0, x1, x2, x3, x4⟩ := cells5 hx
            obtain ⟨y0, y1, y2, y3, y4⟩ := cells5 hy
            have HL := Lib.hid (show (endD c.es A B P j).length ≤ 20000 by have h1 := endD_le c.es A B P j; have h2 := HLT.out; have h3 := HZ.out.2.2.1; have h4 := iA_le c.es c.es.length; rw [qA_len] at h3; omega)
            have HSU := Lib.hid (show endD c.es A B P (j + 1) = ((endD c.es A B P j ++ [⟨ya, xi, 0⟩]) ++ cG xa P) ++ cG ya (IntKind.u64.wrap (yc - P)) from by
              have e1 : A j = aj := by rw [HAB.out.1, HJ.out.1]
              have e2 : B j = bj := by rw [HAB.out.2, HJ.out.2]
              simp only [endD, e1, e2, HXE.out.1, HXE.out.2])
            have HDU := Lib.hid (show dlt A B (j + 1) = updB (updB (dlt A B j) aj) bj from by
              have e1 : A j = aj := by rw [HAB.out.1, HJ.out.1]
              have e2 : B j = bj := by rw [HAB.out.2, HJ.out.2]
              simp only [dlt, e1, e2])
            obtain ⟨l, hl⟩ : ∃ l, l = endD c.es A B P j := ⟨_, rfl⟩
            rw [← hl] at HP1 HL HSU
            obtain ⟨va, vk, hr, ho, hn⟩ := HP1.out.gb
            have HR := Lib.hid hr
            have HO := Lib.hid ho
            have HNN := Lib.hid hn
            have z0 : wc.cell? ⟨gt, 0, none⟩ = some (.slice va l.length vk) := by rw [cell_of_row _ _ _ _ _ _ hr]; rfl
            have HBZ := Lib.hid ((Below.refl wc.heap.size wc).alloc (Nat.le_refl _) (.cells #[.int .i64 ya, .int .i64 xi, .int .u64 0] 87))
            clear hl hr ho hn hbc hpx hpy hx hy HPX
            go_wp2_with (at_builtin; refine wpList_append_sl_at rfl _ _ 55 rfl (gt + 2) 87 (.agg #[.int .i64 0, .int .i64 0, .int .u64 0]) 3 24 Try.underlying55 infoG rfl (by decide) _ l.length (gFlat l) rfl (HO.out.alloc _) (some ⟨wc.heap.size, 0, none⟩) 1 1 (gFlat [⟨ya, xi, 0⟩]) rfl (fun h => by cases h) ?g1 (sl_new _ _ _ _) (oneCell_gFlat _) ?g2 ?g3 ?g4 ?g5)
            case g1 => rfl
            case g2 => have := HL.out; unfold maxLen; omega
            case g3 => have := HL.out; omega
            case g4 => have := HP1.out.sz; first | omega | (simp only [World.size_alloc]; omega)
            intro v7 w7 ho7 hg7 hl7
            obtain ⟨a7, c7, rfl, _⟩ := Go.K.owns_slice ho7
            have HA7 := Lib.hid (And.intro ho7 (And.intro hg7 hl7))
            have hr7 := row_past (row_kept HR.out HBZ.out) hg7 (fun h => by have := (HO.out.lt _ h.symm).1; omega)
            clear ho7 hg7 hl7 z0 x0 x1 x2 x3 x4 y0 y1 y2 y3 y4
            go_upto_region 19 with ((with_reducible refine at_store_op ?_); refine wpList_store_lit 55 gt 0 #[.slice a7 (l.length + 1) c7] (.slice a7 (l.length + 1) c7) hr7 sz55 (Nat.le_of_ble_eq_true rfl) rfl rfl ?_ ?_ ?_; exact rfl; exact rfl; intro w8 hp8)
            have hg8 := GB.next HR.out HO.out HNN.out (show gt < gt + 2 by omega) (fun b hb => (HP1.out.nb b hb).2) HBZ.out HA7.out.1 HA7.out.2.1 (by rw [World.size_alloc]; exact HA7.out.2.2) hp8
            have HP8 := Lib.hid (HP1.out.step hg8)
            have HX8 := Lib.hid (HP1.out.stepRow hg8 (.inl rfl) HX.out)
            have HY8 := Lib.hid (HP1.out.stepRow hg8 (.inr rfl) HY.out)
            obtain ⟨x0, x1, x2, x3, x4⟩ := cells5 HX8.out
            obtain ⟨z2, z3, z1⟩ := HP8.out.cells
            have K52 := Lib.hid (coins_any xa P gt (gt + 2) _ _ w8 HP8.out.gb (by omega) HP8.out.sz (fun b hb => (HP8.out.nb b hb).2) (by have := HL.out; simp; omega))
            clear hg8 hp8 hr7 HA7 HBZ HR HO HNN HX HY HP1
            go_wp2_with fail
            refine K52.out.mono ?_
            rintro r0 w9 ⟨rfl, hg9⟩
            have HP9 := Lib.hid (HP8.out.step hg9)
            have HX9 := Lib.hid (HP8.out.stepRow hg9 (.inl rfl) HX8.out)
            have HY9 := Lib.hid (HP8.out.stepRow hg9 (.inr rfl) HY8.out)
            clear hg9 K52 x0 x1 x2 x3 x4 z1 z2 z3 HX8 HY8 HP8
            obtain ⟨y0, y1, y2, y3, y4⟩ := cells5 HY9.out
            obtain ⟨z2, z3, z1⟩ := HP9.out.cells
            have K52 := Lib.hid (coins_any ya (IntKind.u64.wrap (yc - P)) gt (gt + 2) _ _ w9 HP9.out.gb (by omega) HP9.out.sz (fun b hb => (HP9.out.nb b hb).2) (by have := HL.out; have := cG_le xa P; simp; omega))
            go_wp2_with fail
            refine K52.out.mono ?_
            rintro r0 w10 ⟨rfl, hg10⟩
            have HP10 := Lib.hid (HP9.out.step hg10)
            clear hg10 K52 y0 y1 y2 y3 y4 z1 z2 z3 HX9 HY9 HP9
            go_upto_region 21 with fail
            obtain ⟨D, hD⟩ : ∃ D, D = dlt A B j := ⟨_, rfl⟩
            rw [← hD] at HP10 HDU
            clear hD
            obtain ⟨y5, zd, y2, y6⟩ := HYS.out w10 HP10.out.es
            have HNE := Lib.hid (show b5 ≠ gt + 1 ∧ g ≠ gt + 1 ∧ b2 ≠ gt + 1 ∧ b6 ≠ gt + 1 from by
              have h1 := HP10.out.es.b5 _ rfl
              have h2 := HP10.out.es.b2 _ rfl
              have h3 := HP10.out.es.b6 _ rfl
              have h4 := HP10.out.es.wg
              simp only at h1 h2 h3
              omega)
            have HSET := Lib.hid (fun (V : World) (o : Nat) (v : Value) (h : V.cell? ⟨b5, o5 + da j, none⟩ = some (.int .i64 (aj : Int)) ∧ V.cell? ⟨g, 1, none⟩ = some (.slice (some ⟨b2, o2, none⟩) k k2) ∧ V.cell? ⟨b2, o2 + j, none⟩ = some (.int .i64 (db j : Int)) ∧ V.cell? ⟨b6, o6 + db j, none⟩ = some (.int .i64 (bj : Int))) =>
              show (V.setCell ⟨gt + 1, o, none⟩ v).cell? ⟨b5, o5 + da j, none⟩ = some (.int .i64 (aj : Int)) ∧ (V.setCell ⟨gt + 1, o, none⟩ v).cell? ⟨g, 1, none⟩ = some (.slice (some ⟨b2, o2, none⟩) k k2) ∧ (V.setCell ⟨gt + 1, o, none⟩ v).cell? ⟨b2, o2 + j, none⟩ = some (.int .i64 (db j : Int)) ∧ (V.setCell ⟨gt + 1, o, none⟩ v).cell? ⟨b6, o6 + db j, none⟩ = some (.int .i64 (bj : Int)) from by
                obtain ⟨h1, h2, h3, h4⟩ := h
                obtain ⟨n1, n2, n3, n4⟩ := HNE.out
                have far : ∀ {b q : Nat} {u : Value}, b ≠ gt + 1 → V.cell? ⟨b, q, none⟩ = some u → (V.setCell ⟨gt + 1, o, none⟩ v).cell? ⟨b, q, none⟩ = some u := fun hne hc => by
                  rw [World.cell?_setCell_other (h := fun e => by cases e; exact hne rfl)]; exact hc
                exact ⟨far n1 h1, far n2 h2, far n3 h3, far n4 h4⟩)
            have HS0 := Lib.hid (show w10.cell? ⟨b5, o5 + da j, none⟩ = some (.int .i64 (aj : Int)) ∧ w10.cell? ⟨g, 1, none⟩ = some (.slice (some ⟨b2, o2, none⟩) k k2) ∧ w10.cell? ⟨b2, o2 + j, none⟩ = some (.int .i64 (db j : Int)) ∧ w10.cell? ⟨b6, o6 + db j, none⟩ = some (.int .i64 (bj : Int)) from ⟨y5, zd, y2, y6⟩)
            have zA := HP10.out.rb.cell aj HAL.out
            have zB := HP10.out.rb.cell bj HBLT.out
            have fA : w10.frozen? ⟨gt + 1, aj, none⟩ = false := frozen_of_row _ _ _ _ _ HP10.out.rb
            have fB : w10.frozen? ⟨gt + 1, bj, none⟩ = false := frozen_of_row _ _ _ _ _ HP10.out.rb
            have zAB : ∀ v, (w10.setCell ⟨gt + 1, aj, none⟩ v).cell? ⟨gt + 1, bj, none⟩ = some (.bool (D bj)) := fun v => by
              rw [World.cell?_setCell_other (h := fun e => by cases e; exact HNAB.out rfl)]; exact zB
            have zBA : ∀ v, (w10.setCell ⟨gt + 1, bj, none⟩ v).cell? ⟨gt + 1, aj, none⟩ = some (.bool (D aj)) := fun v => by
              rw [World.cell?_setCell_other (h := fun e => by cases e; exact HNAB.out rfl)]; exact zA
            have fAB : ∀ v, (w10.setCell ⟨gt + 1, aj, none⟩ v).frozen? ⟨gt + 1, bj, none⟩ = false := fun v => by rw [World.frozen?_setCell]; exact fB
            have fBA : ∀ v, (w10.setCell ⟨gt + 1, bj, none⟩ v).frozen? ⟨gt + 1, aj, none⟩ = false := fun v => by rw [World.frozen?_setCell]; exact fA
            go_region_held3 (fun V => V.cell? ⟨b5, o5 + da j, none⟩ = some (.int .i64 (aj : Int)) ∧ V.cell? ⟨g, 1, none⟩ = some (.slice (some ⟨b2, o2, none⟩) k k2) ∧ V.cell? ⟨b2, o2 + j, none⟩ = some (.int .i64 (db j : Int)) ∧ V.cell? ⟨b6, o6 + db j, none⟩ = some (.int .i64 (bj : Int)))
              (first | assumption | exact HS0.out | exact HSET.out _ _ _ HS0.out | exact HSET.out _ _ _ (HSET.out _ _ _ HS0.out))
              (fail)
            all_goals
              have HPF := Lib.hid (HP10.out.set (((only_setC w10 (gt + 1) aj (.bool true)).trans (only_setC _ (gt + 1) bj (.bool true)) (fun k hk => .inl hk)).trans (Only.of_below (S := fun x => x = gt + 1) (below_drawn (Below.refl _ _) _)) (fun k hk => .inl hk)) (show Rb (((w10.setCell ⟨gt + 1, aj, none⟩ (.bool true)).setCell ⟨gt + 1, bj, none⟩ (.bool true)).drew) (gt + 1) c.es.length (updB (updB D aj) bj) from ((HP10.out.rb.setC HAL.out).setC HBLT.out : Rb ((w10.setCell ⟨gt + 1, aj, none⟩ (.bool true)).setCell ⟨gt + 1, bj, none⟩ (.bool true)) (gt + 1) c.es.length (updB (updB D aj) bj))))
              clear y2 y5 y6 zd zA zB fA fB zAB zBA fAB fBA
              have hk5 : k ≤ 5000 := by have h3 := HZ.out.2.2.1; have h4 := iA_le c.es c.es.length; rw [qA_len] at h3; omega
              go_wp2
              go_roundw
              case rel => exact ⟨j + 1, HLT.out, by go_num, by rw [HSU.out, HDU.out]; exact HPF.out⟩
              case measure => have := HLT.out; simp [intOf]; omega
        · have t0 : decide ((j : Int) < (k : Int)) = false := by simp; omega
          obtain rfl : j = k := by omega
          obtain ⟨l0, hl0⟩ : ∃ l0, l0 = endD c.es A B P j := ⟨_, rfl⟩
          obtain ⟨D, hD⟩ : ∃ D, D = dlt A B j := ⟨_, rfl⟩
          rw [← hl0, ← hD] at HPX
          have HL0 := Lib.hid (show l0.length ≤ 20000 by rw [hl0]; have h1 := endD_le c.es A B P j; have h3 := HZ.out.2.2.1; have h4 := iA_le c.es c.es.length; rw [qA_len] at h3; omega)
          have HDL := Lib.hid (And.intro hl0 hD)
          have zb := HES.out.box.cells.2.2.2.2.2.2.2.2.2.2
          clear hl0 hD hlt hj
          go_wp2
          clear zb
          go_loopw [17, 18, 128] (fun s17 s18 i wr => ∃ q : Nat, q ≤ c.es.length ∧ i = .int .i64 q ∧ PX w c g gt P j da db a1 a2 a5 a6 k1 k2 (fun _ => False) (endE c.es D l0 q) D wr) (fun _ _ i _ => c.es.length - (intOf i).toNat)
          case atStart => exact ⟨0, Nat.zero_le _, rfl, HPX.out⟩
          case round =>
            clear HPX HES
            obtain ⟨q, hq, rfl, hE⟩ := hrel
            have HPX := Lib.hid hE
            clear hE
            by_cases hlt : q < c.es.length
            · have t0 : decide ((q : Int) < (c.es.length : Int)) = true := by simp; omega
              have i1 : (q : Int) < (c.es.length : Int) := by omega
              obtain ⟨ob, oo, hea, f0, f1, f2, f3, f4⟩ := ent_at ((HC.out.kept HPX.out.es.bel).sl) q hlt
              rw [hea]
              have HXE := Lib.hid (entN_get c.es q hlt)
              generalize c.es[q] = x at *
              obtain ⟨xa, xi, xc, xp, xw, xk, xs⟩ := x
              simp only at f0 f1 f2 f3 f4
              have HLT := Lib.hid hlt
              clear hea hlt hq
              go_upto_region 26 with ((with_reducible refine at_store_op ?_); refine wpList_store_lit 53 wr.heap.size 0 #[.int .i64 xa, .int .i64 xi, .int .u64 xc, .int .u64 xp, .slice xw xs.length xk] (.agg #[.int .i64 xa, .int .i64 xi, .int .u64 xc, .int .u64 xp, .slice xw xs.length xk]) (alloc_at rfl) szE (Nat.le_of_ble_eq_true rfl) rfl rfl ?_ ?_ ?_; exact rfl; exact rfl; intro w3 hp3)
              have HB3 := Lib.hid (show Below wr.heap.size wr w3 from hp3.below ((Below.refl wr.heap.size wr).alloc (Nat.le_refl _) _) ((Below.refl wr.heap.size wr).alloc (Nat.le_refl _) _).size (Nat.le_refl _))
              have HP3 := Lib.hid (HPX.out.new (M := fun b => b = wr.heap.size) HB3.out (fun b e => by have h1 := lt_row hp3.at'; omega))
              have HE3 := Lib.hid hp3.at'
              obtain ⟨e0, e1, e2, e3, e4⟩ := cells5 hp3.at'
              have zD := HP3.out.rb.cell q HLT.out
              have HL := Lib.hid (show (endE c.es D l0 q).length ≤ 40000 by have h1 := endE_le c.es D l0 q; have h2 := HL0.out; have h3 := HLT.out; omega)
              have HSU := Lib.hid (show endE c.es D l0 (q + 1) = (endE c.es D l0 q ++ if xi ≠ 0 ∧ D q = false then [⟨xa, xi, 0⟩] else []) ++ if xi ≠ 0 ∨ D q = false then cG xa xc else [] from by simp only [endE, HXE.out])
              obtain ⟨l, hl⟩ : ∃ l, l = endE c.es D l0 q := ⟨_, rfl⟩
              rw [← hl] at HP3 HL HSU
              obtain ⟨d, hd⟩ : ∃ d, d = D q := ⟨_, rfl⟩
              rw [← hd] at zD HSU
              clear hl hd hp3 f0 f1 f2 f3 f4 HPX
              by_cases h0 : xi = 0
              case pos =>
                have c0 : (xi != 0) = false := by simpa using h0
                cases d with
                | true =>
                  have HSV := Lib.hid (show endE c.es D l0 (q + 1) = l from by rw [HSU.out]; simp [h0])
                  clear h0
                  go_wp2
                  go_roundw
                  case rel => exact ⟨q + 1, HLT.out, by go_num, by rw [HSV.out]; exact HP3.out.noN⟩
                  case measure => have := HLT.out; simp [intOf]; omega
                | false =>
                  have HSV := Lib.hid (show endE c.es D l0 (q + 1) = l ++ cG xa xc from by rw [HSU.out]; simp [h0])
                  clear h0
                  have K52 := Lib.hid (coins_any xa xc gt (gt + 2) _ _ w3 HP3.out.gb (by omega) HP3.out.sz (fun b hb => (HP3.out.nb b hb).2) (by have := HL.out; simp; omega))
                  go_wp2_with fail
                  refine K52.out.mono ?_
                  rintro r0 w9 ⟨rfl, hg9⟩
                  have HP9 := Lib.hid (HP3.out.step hg9).noN
                  clear hg9 K52 e0 e1 e2 e3 e4 zD
                  go_wp2
                  go_roundw
                  case rel => exact ⟨q + 1, HLT.out, by go_num, by rw [HSV.out]; exact HP9.out⟩
                  case measure => have := HLT.out; simp [intOf]; omega
              case neg =>
                have c0 : (xi != 0) = true := by simpa using h0
                cases d with
                | true =>
                  have HSV := Lib.hid (show endE c.es D l0 (q + 1) = l ++ cG xa xc from by rw [HSU.out]; simp [h0])
                  clear h0
                  have K52 := Lib.hid (coins_any xa xc gt (gt + 2) _ _ w3 HP3.out.gb (by omega) HP3.out.sz (fun b hb => (HP3.out.nb b hb).2) (by have := HL.out; simp; omega))
                  go_wp2_with fail
                  refine K52.out.mono ?_
                  rintro r0 w9 ⟨rfl, hg9⟩
                  have HP9 := Lib.hid (HP3.out.step hg9).noN
                  clear hg9 K52 e0 e1 e2 e3 e4 zD
                  go_wp2
                  go_roundw
                  case rel => exact ⟨q + 1, HLT.out, by go_num, by rw [HSV.out]; exact HP9.out⟩
                  case measure => have := HLT.out; simp [intOf]; omega
                | false =>
                  have HSV := Lib.hid (show endE c.es D l0 (q + 1) = (l ++ [⟨xa, xi, 0⟩]) ++ cG xa xc from by rw [HSU.out]; simp [h0])
                  clear h0
                  obtain ⟨va, vk, hr, ho, hn⟩ := HP3.out.gb
                  have HR := Lib.hid hr
                  have HO := Lib.hid ho
                  have HNN := Lib.hid hn
                  have z0 : w3.cell? ⟨gt, 0, none⟩ = some (.slice va l.length vk) := by rw [cell_of_row _ _ _ _ _ _ hr]; rfl
                  have HBZ := Lib.hid ((Below.refl w3.heap.size w3).alloc (Nat.le_refl _) (.cells #[.int .i64 xa, .int .i64 xi, .int .u64 0] 87))
                  clear hr ho hn
                  go_wp2_with (at_builtin; refine wpList_append_sl_at rfl _ _ 55 rfl (gt + 2) 87 (.agg #[.int .i64 0, .int .i64 0, .int .u64 0]) 3 24 Try.underlying55 infoG rfl (by decide) _ l.length (gFlat l) rfl (HO.out.alloc _) (some ⟨w3.heap.size, 0, none⟩) 1 1 (gFlat [⟨xa, xi, 0⟩]) rfl (fun h => by cases h) ?m1 (sl_new _ _ _ _) (oneCell_gFlat _) ?m2 ?m3 ?m4 ?m5)
                  case m1 => rfl
                  case m2 => have := HL.out; unfold maxLen; omega
                  case m3 => have := HL.out; omega
                  case m4 => have := HP3.out.sz; first | omega | (simp only [World.size_alloc]; omega)
                  intro v7 w7 ho7 hg7 hl7
                  obtain ⟨a7, c7, rfl, _⟩ := Go.K.owns_slice ho7
                  have HA7 := Lib.hid (And.intro ho7 (And.intro hg7 hl7))
                  have hr7 := row_past (row_kept HR.out HBZ.out) hg7 (fun h => by have := (HO.out.lt _ h.symm).1; omega)
                  clear ho7 hg7 hl7 z0 e0 e1 e2 e3 e4 zD
                  go_upto_region 28 with ((with_reducible refine at_store_op ?_); refine wpList_store_lit 55 gt 0 #[.slice a7 (l.length + 1) c7] (.slice a7 (l.length + 1) c7) hr7 sz55 (Nat.le_of_ble_eq_true rfl) rfl rfl ?_ ?_ ?_; exact rfl; exact rfl; intro w8 hp8)
                  have hg8 := GB.next HR.out HO.out HNN.out (show gt < gt + 2 by omega) (fun b hb => (HP3.out.nb b hb).2) HBZ.out HA7.out.1 HA7.out.2.1 (by rw [World.size_alloc]; exact HA7.out.2.2) hp8
                  have HP8 := Lib.hid (HP3.out.step hg8)
                  have HE8 := Lib.hid (HP3.out.stepRow hg8 rfl HE3.out)
                  obtain ⟨e0, e1, e2, e3, e4⟩ := cells5 HE8.out
                  have zD := HP8.out.rb.cell q HLT.out
                  clear hg8 hp8 hr7 HA7 HBZ HR HO HNN
                  have K52 := Lib.hid (coins_any xa xc gt (gt + 2) _ _ w8 HP8.out.gb (by omega) HP8.out.sz (fun b hb => (HP8.out.nb b hb).2) (by have := HL.out; simp; omega))
                  go_wp2_with fail
                  refine K52.out.mono ?_
                  rintro r0 w9 ⟨rfl, hg9⟩
                  have HP9 := Lib.hid (HP8.out.step hg9).noN
                  clear hg9 K52 e0 e1 e2 e3 e4 zD
                  go_wp2
                  go_roundw
                  case rel => exact ⟨q + 1, HLT.out, by go_num, by rw [HSV.out]; exact HP9.out⟩
                  case measure => have := HLT.out; simp [intOf]; omega
            · have t0 : decide ((q : Int) < (c.es.length : Int)) = false := by simp; omega
              obtain rfl : q = c.es.length := by omega
              obtain ⟨va, vk, hr, ho, hn⟩ := HPX.out.gb
              have HO := Lib.hid ho
              have HBF := Lib.hid HPX.out.es.bel
              have HW := Lib.hid HPX.out.es.wg
              have HEG := Lib.hid (show endG c.es da db j = endE c.es D l0 c.es.length from by
                unfold endG
                rw [HDL.out.1, HDL.out.2, HAB.out.1, HAB.out.2, HP.out])
              have z0 : wr.cell? ⟨gt, 0, none⟩ = some (.slice va (endE c.es D l0 c.es.length).length vk) := by rw [cell_of_row _ _ _ _ _ _ hr]; rfl
              clear hr ho hn hlt hq HPX
              go_wp2
              go_ret
              exact ⟨_, da, db, j, rfl, HZ.out.1, HZ.out.2.1, HZ.out.2.2, by rw [HEG.out]; exact owns_base HO.out (by have := HW.out; omega), HBF.out⟩
end Go.Proofs.Ytbggibdldadpiaa
