/-
  Layer 21: what stands while the law of the own memory is walked.
-/
import Derived.Test.YtpejcndfplbikaaEa
import Derived.Test.YtpejcndfplbikaaEb
import Derived.Test.YtpejcndfplbikaaMb
import Derived.Test.YtpejcndfplbikaaOd
namespace Go.Proofs.Ytpejcndfplbikaa
open Go.RowKit Go.K
set_option linter.unusedVariables false
set_option linter.unusedSimpArgs false
def JoinP2 (w : World) (c : Con) (e : Ent) (r : Ending) (w' : World) : Prop :=
  ∃ (d : Con) (ad : Option Addr) (cap : Nat), r = .returned (.tuple #[.agg #[.int .i64 d.num, .int .i64 d.kind, .int .i64 d.by', .int .i64 d.dl, .int .i64 d.to', .int .i64 d.want, .int .u64 d.price, .int .u64 d.reserve, .int .u64 d.step, .int .i64 d.of', .slice d.ea d.es.length d.ec], .slice ad (joinGs c e).length cap, .bool false, .int .i64 (c.joinV' e)]) ∧
    Below w.heap.size w w' ∧ NewC w.heap.size w' d ∧ w'.ownsRow w.heap.size 64 3 (.slice ad (joinGs c e).length cap) (joinGs c e).length (gFlat (joinGs c e)) ∧ d.d = joinDs c e ∧ DisE d.es
theorem join_piece2 (l c : Con) (x e : Ent) (w : World) (hl : ConOk w l) (hx : EntOk w x) (h : l.d = c.d) (h2 : x.d = e.d) : Calls Try.prog 10 #[l.agg, x.agg] w (JoinP2 w c e) := by
  refine (join_dis l x w hl hx).mono (fun r w' hj => ?_)
  obtain ⟨d, ad, cap, gs, hr, hb, hN, hg, hgs, hd, hdis⟩ := hj
  have hv := joinV'_eq h h2
  have hG : gs = joinGs c e := by
    rw [hgs]; unfold joinGs; rw [hv, (con_eq h).1, (con_eq h).2.2.2.2.2.2.2.2]
  subst hG
  refine ⟨d, ad, cap, ?_, hb, hN, hg, ?_, hdis⟩
  · rw [hr, hv]; rfl
  · rw [hd]; unfold joinDs; rw [hv, joinD_eq h h2]
theorem Fam.kept {B : Nat} {t : TypeId} {sz : Nat} {w w' : World} {l : List R3} (h : Fam B t sz w l) (hb : Below w.heap.size w w') : Fam B t sz w' l :=
  ⟨fun i hi => by obtain ⟨xs, h1⟩ := h.own i hi; exact ⟨xs, owns_below (B := 0) h1 hb⟩, h.dis⟩
theorem Fam.lt {B : Nat} {t : TypeId} {sz : Nat} {w : World} {l : List R3} (h : Fam B t sz w l) {b : Nat} (hb : ownS l b) : B ≤ b ∧ b < w.heap.size := by
  obtain ⟨r, hr, hb⟩ := hb
  obtain ⟨i, hi, rfl⟩ := List.getElem_of_mem hr
  obtain ⟨xs, h1⟩ := h.own i hi
  exact h1.lt b hb
theorem Fam.append {B B2 : Nat} {t : TypeId} {sz : Nat} {w w' : World} {l m : List R3} (h : Fam B t sz w l) (hb : Below w.heap.size w w') (h2 : Fam B2 t sz w' m) (hB : w.heap.size ≤ B2) (hB0 : B ≤ w.heap.size) : Fam B t sz w' (l ++ m) := by
  have hk := h.kept hb
  have hx : ∀ i j (hi : i < l.length) (hj : j < m.length) b, (rV l[i]).ownBlock = some b → (rV m[j]).ownBlock = some b → False := fun i j hi hj b k1 k2 => by
    have h1 := (h.lt ⟨_, List.getElem_mem hi, k1⟩).2
    have h3 := (h2.lt ⟨_, List.getElem_mem hj, k2⟩).1
    omega
  refine ⟨fun i hi => ?_, fun i j hi hj hij b k1 k2 => ?_⟩
  · by_cases e : i < l.length
    · rw [List.getElem_append_left e]; exact hk.own i e
    · rw [List.length_append] at hi
      rw [List.getElem_append_right (by omega)]
      obtain ⟨xs, h1⟩ := h2.own (i - l.length) (by omega)
      exact ⟨xs, owns_base h1 (by omega)⟩
  · rw [List.length_append] at hi hj
    by_cases ei : i < l.length <;> by_cases ej : j < l.length
    · rw [List.getElem_append_left ei] at k1; rw [List.getElem_append_left ej] at k2; exact h.dis i j ei ej hij b k1 k2
    · rw [List.getElem_append_left ei] at k1; rw [List.getElem_append_right (by omega)] at k2; exact hx _ _ _ _ b k1 k2
    · rw [List.getElem_append_right (by omega)] at k1; rw [List.getElem_append_left ej] at k2; exact hx _ _ _ _ b k2 k1
    · rw [List.getElem_append_right (by omega)] at k1 k2; exact h2.dis _ _ (by omega) (by omega) (by omega) b k1 k2
theorem Fam.one {B : Nat} {t : TypeId} {sz : Nat} {w : World} {r : R3} {xs : List Value} (h : w.ownsRow B t sz (rV r) r.2.1 xs) : Fam B t sz w [r] :=
  ⟨fun i hi => by simp at hi; subst hi; exact ⟨xs, h⟩, fun i j hi hj hij => by simp at hi hj; omega⟩
theorem Fam.nil {B : Nat} {t : TypeId} {sz : Nat} {w : World} : Fam B t sz w [] := ⟨fun i hi => by simp at hi, fun i j hi => by simp at hi⟩
theorem fam_wishes {B : Nat} {w : World} {d : Con} (h : NewC B w d) (hd : DisE d.es) : Fam B 3 1 w (d.es.map Ent.w3) := by
  refine ⟨fun i hi => ?_, fun i j hi hj hij b => ?_⟩
  · rw [List.length_map] at hi
    rw [List.getElem_map]
    exact ⟨_, (h.ents _ (List.getElem_mem hi)).row⟩
  · rw [List.length_map] at hi hj
    rw [List.getElem_map, List.getElem_map]
    exact hd i j hi hj hij b
def Con.e3 (d : Con) : R3 := (d.ea, d.es.length, d.ec)
/-- What stands behind the joins: what was handed in, the answers, the lists of gifts, the wishes. -/
structure O2 (w : World) (c : Con) (e : Ent) (l : Con) (x : Ent) (r s : Nat × Nat) (g h : Nat) (d1 d2 : Con) (m1 m2 B : Nat) (rl : List R3) (ps : List (Option Addr × List Gi)) (V : World) : Prop where
  out : Out w c e l x r s g h d1 d2 m1 m2 B B V
  fr : Fam B 64 3 V rl
  fw : Fam B 3 1 V (d1.es.map Ent.w3 ++ d2.es.map Ent.w3)
  fe : Fam B 33 5 V [d1.e3, d2.e3]
  sl : ∀ p ∈ ps, Sl V p.1 (gFlat p.2)
  le : B ≤ V.heap.size
theorem O2.kept {w : World} {c : Con} {e : Ent} {l : Con} {x : Ent} {r s : Nat × Nat} {g h : Nat} {d1 d2 : Con} {m1 m2 B : Nat} {rl : List R3} {ps : List (Option Addr × List Gi)} {V V' : World} (H : O2 w c e l x r s g h d1 d2 m1 m2 B rl ps V) (hb : Below V.heap.size V V') : O2 w c e l x r s g h d1 d2 m1 m2 B rl ps V' :=
  ⟨H.out.kept hb, H.fr.kept hb, H.fw.kept hb, H.fe.kept hb, fun p hp => (H.sl p hp).kept hb, Nat.le_trans H.le hb.size⟩
theorem O2.grow {w : World} {c : Con} {e : Ent} {l : Con} {x : Ent} {r s : Nat × Nat} {g h : Nat} {d1 d2 : Con} {m1 m2 B : Nat} {rl : List R3} {ps : List (Option Addr × List Gi)} {V V' : World} {a : Option Addr} {L : List Gi} {k : Nat} (H : O2 w c e l x r s g h d1 d2 m1 m2 B rl ps V) (hb : Below V.heap.size V V')
    (ho : V'.ownsRow V.heap.size 64 3 (.slice a L.length k) L.length (gFlat L)) : O2 w c e l x r s g h d1 d2 m1 m2 B (rl ++ [(a, L.length, k)]) (ps ++ [(a, L)]) V' :=
  ⟨H.out.kept hb, H.fr.append hb (Fam.one (r := (a, L.length, k)) ho) (Nat.le_refl _) H.le, H.fw.kept hb, H.fe.kept hb, fun p hp => by
    rcases List.mem_append.1 hp with hp | hp
    · exact (H.sl p hp).kept hb
    · rw [List.mem_singleton] at hp; subst hp; exact (own_sl ho).2, Nat.le_trans H.le hb.size⟩
theorem not_own {V : World} {g : Nat} {row : Array Value} {t t' : TypeId} {fr : Nat × Nat} {B sz n : Nat} {v : Value} {xs : List Value} (h : V.heap[g]? = some (.cells row t' fr)) (ho : V.ownsRow B t sz v n xs) (hne : t' ≠ t) : v.ownBlock ≠ some g := by
  intro e
  rcases ho.2 with ⟨h1, _⟩ | ⟨g', cap, cur, hv, hh⟩
  · rw [h1] at e; cases e
  · rw [hv] at e
    have e2 : g' = g := by simpa [Value.ownBlock] using e
    subst e2
    have h3 := hh.2.1
    rw [h] at h3
    injection h3 with h3
    injection h3 with h4 h5 h6
    exact hne h5
theorem cells6 {w : World} {g : Nat} {a b c d e f : Value} {t : TypeId} {fr : Nat × Nat} (h : w.heap[g]? = some (.cells #[a, b, c, d, e, f] t fr)) :
    w.cell? ⟨g, 2, none⟩ = some c ∧ w.cell? ⟨g, 3, none⟩ = some d ∧ w.cell? ⟨g, 4, none⟩ = some e ∧ w.cell? ⟨g, 5, none⟩ = some f :=
  ⟨by rw [cell_of_row _ _ _ _ _ _ h]; rfl, by rw [cell_of_row _ _ _ _ _ _ h]; rfl, by rw [cell_of_row _ _ _ _ _ _ h]; rfl, by rw [cell_of_row _ _ _ _ _ _ h]; rfl⟩
def mE1 (i k : Nat) : List Value := [.int .i64 (-(i : Int) - 1), .int .i64 (k : Int), .int .u64 0, .int .u64 0, .slice none 0 0]
def mE2 (i k : Nat) : List Value := [.int .i64 (100 + (i : Int)), .int .i64 (k : Int), .int .u64 0, .int .u64 0, .slice none 0 0]
theorem one_mE2 (i k : Nat) : ∀ u ∈ mE2 i k, u.oneCell' = true := by intro u hu; simp only [mE2, List.mem_cons, List.not_mem_nil, or_false] at hu; rcases hu with rfl | rfl | rfl | rfl | rfl <;> rfl
theorem info70' : (Try.prog.info? 23).map (fun i => (i.zero, i.size, i.bytes)) = some (some (.slice none 0 0), 1, 24) := by kernel_rfl
theorem long_cells {V : World} {B : Nat} {u : Value} {n : Nat} {m1 m2 : Nat → List Value} (h : V.ownsRow B 33 5 u (n + 20) (flatM m1 n ++ flatM m2 20)) (h1 : ∀ q, (m1 q).length = 5) (h2 : ∀ q, (m2 q).length = 5) : ∃ g c, u = .slice (some ⟨g, 0, none⟩) (n + 20) c ∧
    (∀ k t v, k < n → t < 5 → (m1 k)[t]? = some v → V.cell? ⟨g, k * 5 + t, none⟩ = some v) ∧ ∀ q t v, q < 20 → t < 5 → (m2 q)[t]? = some v → V.cell? ⟨g, (n + q) * 5 + t, none⟩ = some v := by
  have hc : LongA B 33 5 m2 V n 20 u := ⟨_, flatM_len h1 n, h⟩
  obtain ⟨g, cp, hu, hcell⟩ := hc.cell h2 (by decide)
  refine ⟨g, cp, hu, fun k t v hk ht hv => ?_, hcell⟩
  subst hu
  have h3 := h.cells (g := g) rfl (k * 5 + t) v (by
    rw [List.getElem?_append_left (by rw [flatM_len h1]; omega), flatM_get h1 n k t hk ht]; exact hv)
  rw [add_spot, Nat.zero_add] at h3
  exact h3
def dd (d1 d2 : Con) (i : Nat) : Con := if i = 0 then d1 else d2
def wl (d1 d2 : Con) (i : Nat) : List R3 := if i = 0 then [] else if i = 1 then d1.es.map Ent.w3 else d1.es.map Ent.w3 ++ d2.es.map Ent.w3
theorem wl_succ (d1 d2 : Con) (i : Nat) (h : i < 2) : wl d1 d2 (i + 1) = wl d1 d2 i ++ (dd d1 d2 i).es.map Ent.w3 := by
  match i, h with
  | 0, _ => simp [wl, dd]
  | 1, _ => simp [wl, dd]
/-- Both contracts in one block. -/
def rowB (c d : Con) : Array Value := #[.int .i64 c.num, .int .i64 c.kind, .int .i64 c.by', .int .i64 c.dl, .int .i64 c.to', .int .i64 c.want, .int .u64 c.price, .int .u64 c.reserve, .int .u64 c.step, .int .i64 c.of', .slice c.ea c.es.length c.ec, .int .i64 d.num, .int .i64 d.kind, .int .i64 d.by', .int .i64 d.dl, .int .i64 d.to', .int .i64 d.want, .int .u64 d.price, .int .u64 d.reserve, .int .u64 d.step, .int .i64 d.of', .slice d.ea d.es.length d.ec]
theorem both_cell {V : World} {g : Nat} {t : TypeId} {d1 d2 : Con} (h : V.heap[g]? = some (.cells (rowB d1 d2) t)) (i : Nat) (hi : i < 2) : V.cell? ⟨g, i * 11 + 10, none⟩ = some (.slice (dd d1 d2 i).ea (dd d1 d2 i).es.length (dd d1 d2 i).ec) := by
  match i, hi with
  | 0, _ => rw [cell_of_row _ _ _ _ _ _ h]; rfl
  | 1, _ => rw [cell_of_row _ _ _ _ _ _ h]; rfl
theorem Fam.off_row {B : Nat} {t : TypeId} {sz : Nat} {V : World} {l : List R3} (h : Fam B t sz V l) {g : Nat} {row : Array Value} {t' : TypeId} {fr : Nat × Nat} (hr : V.heap[g]? = some (.cells row t' fr)) (hne : t' ≠ t) : ¬ ownS l g := by
  rintro ⟨r, hm, hb⟩
  obtain ⟨i, hi, rfl⟩ := List.getElem_of_mem hm
  obtain ⟨xs, h1⟩ := h.own i hi
  exact not_own hr h1 hne hb
theorem Fam.off_own {B : Nat} {t : TypeId} {sz : Nat} {V : World} {l : List R3} (h : Fam B t sz V l) {B' : Nat} {t' : TypeId} {s' n' : Nat} {v' : Value} {xs' : List Value} (ho : V.ownsRow B' t' s' v' n' xs') (hne : t ≠ t') (b : Nat) (hb' : v'.ownBlock = some b) : ¬ ownS l b := by
  rintro ⟨r, hm, hb⟩
  obtain ⟨i, hi, rfl⟩ := List.getElem_of_mem hm
  obtain ⟨xs, h1⟩ := h.own i hi
  rcases owns_apart h1 ho hne with e | e
  · rw [e] at hb; cases hb
  · exact e (hb.trans hb'.symm)
theorem Fam.off {B B2 : Nat} {t t2 : TypeId} {sz sz2 : Nat} {V : World} {l m : List R3} (h : Fam B t sz V l) (h2 : Fam B2 t2 sz2 V m) (hne : t ≠ t2) (b : Nat) (hb : ownS l b) : ¬ ownS m b := by
  rintro ⟨r, hm, hb2⟩
  obtain ⟨i, hi, rfl⟩ := List.getElem_of_mem hm
  obtain ⟨xs, h1⟩ := h2.own i hi
  exact h.off_own h1 hne b hb2 hb
theorem Ins.only {w : World} {c : Con} {e : Ent} {l : Con} {x : Ent} {r s : Nat × Nat} {g h : Nat} {V V' : World} {B hi : Nat} (H : Ins w c e l x r s g h V) (ho : Only (Rng (B, hi)) V V') (hb : r.2 ≤ B ∧ s.2 ≤ B ∧ g < B ∧ h < B ∧ w.heap.size + 1 < B) : Ins w c e l x r s g h V' :=
  ⟨H.cb.only ho hb.2.2.2.2, H.bl.only ho (Rng.not (.inl hb.2.2.1)), ho.row H.bx (Rng.not (.inl hb.2.2.2.1)), H.hl.off ho (.inl hb.1), H.hx.off ho (.inl hb.2.1)⟩
theorem wl_le (d1 d2 : Con) (i : Nat) (h1 : d1.es.length ≤ 2513169434843) (h2 : d2.es.length ≤ 2513169434843) : (wl d1 d2 i).length ≤ 5026338869686 := by
  unfold wl
  split
  · simp
  · split
    · rw [List.length_map]; omega
    · rw [List.length_append, List.length_map, List.length_map]; omega
theorem wl_lt (d1 d2 : Con) (i : Nat) (h1 : d1.es.length ≤ 2513169434843) (h2 : d2.es.length ≤ 2513169434843) (hi : i < 2) : (wl d1 d2 i).length ≤ 2513169434843 := by
  match i, hi with
  | 0, _ => simp [wl]
  | 1, _ => simpa [wl] using h1
theorem wish_le {B : Nat} {V : World} {d1 d2 : Con} (h1 : NewC B V d1) (h2 : NewC B V d2) : ∀ r ∈ d1.es.map Ent.w3 ++ d2.es.map Ent.w3, r.2.1 ≤ 17592186043904 := by
  intro r hr
  rcases List.mem_append.1 hr with hr | hr
  · obtain ⟨x, hx, rfl⟩ := List.mem_map.1 hr; exact (h1.ents x hx).mx
  · obtain ⟨x, hx, rfl⟩ := List.mem_map.1 hr; exact (h2.ents x hx).mx
set_option maxHeartbeats 4000000 in
theorem lend8 {Q : Exit → Act → World → Prop} {id : Nat} {o6 o7 : Oper} {l : List Oper} {a0 : Act} {w0 : World} {t0 t1 t2 t3 t4 t5 : TypeId} {p0 p1 p2 p3 p4 p5 : String} {f0 f1 f2 f3 f4 f5 : Array Edge} {s1 s3 : Array TypeId}
    (hl : l = [{ dst := some 35, op := .load 25 (.tmp 2), type := t0, pos := p0, after := f0, guard := none }, { dst := some 36, op := .call { callee := .value (.func 9), args := #[.tmp 35], argTypes := s1 }, type := t1, pos := p1, after := f1, guard := none },
      { dst := some 37, op := .load 33 (.tmp 3), type := t2, pos := p2, after := f2, guard := none }, { dst := some 38, op := .call { callee := .value (.func 11), args := #[.tmp 37], argTypes := s3 }, type := t3, pos := p3, after := f3, guard := none },
      { dst := some 5, op := .alloc 25, type := t4, pos := p4, after := f4, guard := none }, { dst := some 6, op := .alloc 33, type := t5, pos := p5, after := f5, guard := none }, o6, o7])
    (hF : stateB l.toArray 6 = true) (d1 : ∃ e ∈ f1, Region.binds .any e = true ∧ e.on = 0) (d3 : ∃ e ∈ f3, Region.binds .any e = true ∧ e.on = 2)
    (hsz : 38 < a0.tmps.size) (gc ge : Nat) (h2 : a0.eval (.tmp 2) = .pointer (some ⟨gc, 0, none⟩)) (h3 : a0.eval (.tmp 3) = .pointer (some ⟨ge, 0, none⟩)) (c : Con) (x1 : Ent) (hb : Box w0 gc c) (hbe : BoxE w0 ge x1) (hc : ConOk w0 c) (he : EntOk w0 x1)
    (hend : ∀ x R w, Pieces w0 (fun j => decide (j < 6)) R w → x 35 = c.agg → F2 c x1 1 (x 36) (R 1) w → x 37 = x1.agg → F2 c x1 3 (x 38) (R 3) w → F2 c x1 4 (x 5) (R 4) w → F2 c x1 5 (x 6) (R 5) w →
      wpList Try.prog l.toArray Q [o6, o7] (putsF a0 [35, 36, 37, 38, 5, 6] x) w)
    (x0 : Nat → Value) (hx0 : a0 = putsF a0 [35, 36, 37, 38, 5, 6] x0) : (Code.region id l.toArray true).wp Try.prog Q a0 w0 := by
  subst hl
  refine wp_region_items 6 (fun i => [35, 36, 37, 38, 5, 6].getD i 0) [35, 36, 37, 38, 5, 6] (F2 c x1) (by kernel_rfl) hF ?_ ?_ (F2.mono c x1) ?_ ?_ x0 hx0
  · intro i hi
    match i, hi with
    | 0, _ | 1, _ | 2, _ | 3, _ | 4, _ | 5, _ => simp
  · have H : ∀ i, i < 6 → ∀ j, j < 6 → [35, 36, 37, 38, 5, 6].getD i 0 = [35, 36, 37, 38, 5, 6].getD j 0 → i = j := by decide
    exact fun i j hi hj h => H i hi j hj h
  · intro i f x R w o hi hP hall ho hdep K hK
    have e2 : (putsF a0 [35, 36, 37, 38, 5, 6] x).eval (.tmp 2) = .pointer (some ⟨gc, 0, none⟩) := by rw [putsF_eval _ _ _ 2 (by omega), if_neg (by decide)]; exact h2
    have e3 : (putsF a0 [35, 36, 37, 38, 5, 6] x).eval (.tmp 3) = .pointer (some ⟨ge, 0, none⟩) := by rw [putsF_eval _ _ _ 3 (by omega), if_neg (by decide)]; exact h3
    have hbox := hb.kept hP.bel
    have hboxe := row_kept hbe hP.bel
    have hcw := hc.kept hP.bel
    have hew := he.kept hP.bel
    have hev : ∀ t : Nat, t ∈ [35, 36, 37, 38, 5, 6] → t ≤ 38 → (putsF a0 [35, 36, 37, 38, 5, 6] x).eval (.tmp t) = x t := fun t ht h => by rw [putsF_eval _ _ _ t (by omega), if_pos ht]
    match i, hi with
    | 0, _ => exact op_load25 (.tmp 2) rfl e2 hbox szC (hK _ _ (Below.refl _ _) rfl)
    | 2, _ => exact op_load33 (.tmp 3) rfl e3 hboxe szE (hK _ _ (Below.refl _ _) rfl)
    | 1, _ =>
      obtain ⟨e, he1, he2, he3⟩ := d1
      have hf := hdep e (by obtain rfl := Option.some.inj ho; exact he1) he2
      rw [he3] at hf
      exact op_call 9 35 c.agg s1 rfl enter9 (by rw [hev 35 (by decide) (by decide)]; exact hall 0 (by decide) hf) ((lent_piece c w hcw).mono fun r w' ⟨ll, hr, hL, hbl⟩ => ⟨_, hr, hK _ _ hbl ⟨ll, rfl, hL⟩⟩)
    | 3, _ =>
      obtain ⟨e, he1, he2, he3⟩ := d3
      have hf := hdep e (by obtain rfl := Option.some.inj ho; exact he1) he2
      rw [he3] at hf
      exact op_call 11 37 x1.agg s3 rfl enter11 (by rw [hev 37 (by decide) (by decide)]; exact hall 2 (by decide) hf) ((lentE_piece x1 w hew).mono fun r w' ⟨ll, hr, hL, hbl⟩ => ⟨_, hr, hK _ _ hbl ⟨ll, rfl, hL⟩⟩)
    | 4, _ => exact op_alloc25 rfl (hK _ _ ((Below.refl _ _).alloc (Nat.le_refl _) _) ⟨rfl, alloc_at rfl, by simp⟩)
    | 5, _ => exact op_alloc33 rfl (hK _ _ ((Below.refl _ _).alloc (Nat.le_refl _) _) ⟨rfl, alloc_at rfl, by simp⟩)
  · intro x R w hP hall
    exact hend x R w hP (hall 0 (by decide)) (hall 1 (by decide)) (hall 2 (by decide)) (hall 3 (by decide)) (hall 4 (by decide)) (hall 5 (by decide))

end Go.Proofs.Ytpejcndfplbikaa
