/-
  What Clear, Join and End answer is new memory, each list of it apart from each other; what is handed in stays.
  No condition beyond the statement's own.
-/
import Derived.Test.YtpikmcapnmdmbaaZg
import Derived.Test.YtpikmcapnmdmbaaRg
import Derived.Test.YtpikmcapnmdmbaaYb
namespace Go.Proofs.Ytpikmcapnmdmbaa.lawBarterOwn
open Go.RowKit Go.K Go.Maps Go.ChangeShapes Go.WideShapes Go.ChangeAt
set_option linter.unusedVariables false
set_option linter.unusedSimpArgs false
def EBox (W : World) (g : Nat) (e : Ent) : Prop := W.heap[g]? = some (.cells #[.int .i64 e.acc, .int .i64 e.item, .int .u64 e.coins, .int .u64 e.price, .slice e.wa e.ws.length e.wc] 48)
theorem EBox.kept {W W' : World} {g : Nat} {e : Ent} (h : EBox W g e) (hb : Below W.heap.size W W') : EBox W' g e := row_kept h hb
theorem EBox.cells {W : World} {g : Nat} {e : Ent} (h : EBox W g e) : W.cell? ⟨g, 0, none⟩ = some (.int .i64 e.acc) ∧ W.cell? ⟨g, 1, none⟩ = some (.int .i64 e.item) ∧ W.cell? ⟨g, 2, none⟩ = some (.int .u64 e.coins) ∧
    W.cell? ⟨g, 3, none⟩ = some (.int .u64 e.price) ∧ W.cell? ⟨g, 4, none⟩ = some (.slice e.wa e.ws.length e.wc) := cells5 h
/-- The two that came in, in boxes; what was there stays. -/
structure Bs (w : World) (c : Con) (e : Ent) (V : World) : Prop where
  bx : Box V w.heap.size c
  ex : EBox V (w.heap.size + 1) e
  bel : Below w.heap.size w V
theorem Bs.kept {w : World} {c : Con} {e : Ent} {V V' : World} (h : Bs w c e V) (hb : Below V.heap.size V V') : Bs w c e V' := ⟨h.bx.kept hb, h.ex.kept hb, h.bel.trans (hb.mono h.bel.size)⟩
theorem Bs.ge {w : World} {c : Con} {e : Ent} {V : World} (h : Bs w c e V) : w.heap.size + 2 ≤ V.heap.size := lt_row h.ex
theorem Bs.only {S : Nat → Prop} {w : World} {c : Con} {e : Ent} {V V' : World} (h : Bs w c e V) (ho : Only S V V') (hS : ∀ k, S k → w.heap.size + 2 ≤ k) : Bs w c e V' :=
  ⟨ho.row h.bx (fun hs => by have := hS _ hs; omega), ho.row h.ex (fun hs => by have := hS _ hs; omega), h.bel.trans (ho.below h.bel.size (fun k hk => by have := hS k hk; omega))⟩
theorem make23 (n : Nat) (h : n ≤ 5864062014500) (w : World) : (Instr.makeSlice 23 (.int .i64 n) (.int .i64 n)).run Try.prog w = .ok (.slice (some ⟨w.heap.size, 0, none⟩) n n) (w.alloc (.cells (List.replicate n (.slice none 0 0)).toArray 22)) := by
  obtain ⟨i, hi, hz, hs, hb⟩ := info_parts liS
  have := run_make (P := Try.prog) w 23 22 i (.slice none 0 0) Try.underlying23 hi hz .i64 .i64 n n (by omega) (by omega) (by rw [hb]; omega) (by omega)
  have e : madeCells (Value.slice none 0 0).cells n = (List.replicate n (.slice none 0 0)).toArray := by
    apply Array.ext
    · simp [madeCells]
    · intro i h1 h2
      simp [madeCells, Value.cells, Nat.mod_one]
  rw [hs] at this
  simpa [e] using this
theorem nils_ok (n : Nat) (w : World) : WsOk (w.alloc (.cells (List.replicate n (.slice none 0 0)).toArray 22)) (some ⟨w.heap.size, 0, none⟩) (List.replicate n ⟨none, 0, []⟩) := by
  refine ⟨?_, fun x hx => ?_⟩
  · have h := sl_new w (List.replicate n (.slice none 0 0)) 22 (0, 0)
    have e : wV (List.replicate n ⟨none, 0, []⟩) = List.replicate n (.slice none 0 0) := by unfold wV; rw [List.map_replicate]; rfl
    rw [e]; exact h
  · rw [List.eq_of_mem_replicate hx]
    exact ⟨Sl.nil _ _, Nat.le_refl _, Nat.zero_le _, fun _ => ⟨rfl, rfl⟩, fun x hx => by cases hx⟩
theorem clo_same {is : List Int} {ws : List (List Int)} {B1 B2 N1 N2 : Nat} {W1 W2 : World} {L1 L2 : List Int} {g1 c1 g2 c2 : R3} {r1 r2 : List R3} (h1 : ClV is ws L1 N1) (h2 : ClV is ws L2 N2) (o : ClO B2 W2 L2 N2 g2 c2 r2) : ClO B2 W2 L1 N1 g2 c2 r2 := by
  obtain ⟨e1, e2⟩ := clv_unique h2 h1
  rw [← e1, ← e2]; exact o
/-- Rows of other kinds than lists of lists stay. -/
def Kp (W V : World) : Prop := ∀ (g : Nat) (cs : Array Value) (t : TypeId), t ≠ 22 → W.heap[g]? = some (.cells cs t (0, 0)) → V.heap[g]? = some (.cells cs t (0, 0))
theorem Kp.refl (W : World) : Kp W W := fun g cs t _ h => h
theorem Kp.trans {W V U : World} (h : Kp W V) (k : Kp V U) : Kp W U := fun g cs t ht hr => k g cs t ht (h g cs t ht hr)
theorem Kp.below {W V : World} (h : Below W.heap.size W V) : Kp W V := fun g cs t _ hr => row_kept hr h
theorem Kp.grown {W V : World} {B sz n : Nat} {v : Value} {xs : List Value} (ho : W.ownsRow B 22 sz v n xs) (hg : W.grownBy V v.ownBlock) : Kp W V :=
  fun g cs t ht hr => row_past hr hg (fun e => own_ne_row ho hr (fun e2 => ht e2.symm) e.symm)
theorem Kp.owns {W V : World} {B t sz n : Nat} {v : Value} {xs : List Value} (hk : Kp W V) (h : W.ownsRow B t sz v n xs) (ht : t ≠ 22) : V.ownsRow B t sz v n xs := by
  refine ⟨h.1, ?_⟩
  rcases h.2 with h2 | ⟨g, cap, cur, hv, hB, hr, h3⟩
  · exact .inl h2
  · exact .inr ⟨g, cap, cur, hv, hB, hk g cur t ht hr, h3⟩
theorem Kp.newC {W V : World} {B : Nat} {d : Con} (hk : Kp W V) (h : NewC B W d) : NewC B V d :=
  ⟨hk.owns h.row (by decide), fun e he => ⟨hk.owns (h.ents e he).row (by decide), (h.ents e he).mx, (h.ents e he).wf, (h.ents e he).iw, (h.ents e he).cw, (h.ents e he).pw⟩, h.mx⟩
theorem Kp.cell {W V : World} (hk : Kp W V) {g o : Nat} {cs : Array Value} {t : TypeId} {u : Value} (hr : W.heap[g]? = some (.cells cs t (0, 0))) (ht : t ≠ 22) (hc : W.cell? ⟨g, o, none⟩ = some u) : V.cell? ⟨g, o, none⟩ = some u := by
  rw [cell_of_row _ _ _ _ _ _ hr] at hc
  rw [cell_of_row _ _ _ _ _ _ (hk g cs t ht hr)]
  exact hc
/-- Where an entry of an answered contract lies. -/
theorem NewC.at_ent {B : Nat} {W : World} {d : Con} (h : NewC B W d) (i : Nat) (hi : i < d.es.length) : ∃ g cs, d.ea = some ⟨g, 0, none⟩ ∧ W.heap[g]? = some (.cells cs 48 (0, 0)) ∧ W.cell? ⟨g, i * 5 + 4, none⟩ = some (.slice d.es[i].wa d.es[i].ws.length d.es[i].wc) := by
  obtain ⟨g, cap, cur, hv, _, hr, _⟩ := owns_cases h.row (by omega)
  injection hv with h1 h2 h3
  obtain ⟨ob, oo, hea, f0, f1, f2, f3, f4⟩ := h.ok.ent i hi
  rw [h1] at hea
  injection hea with hea
  injection hea with e1 e2
  refine ⟨g, cur, h1, hr, ?_⟩
  rw [← e1, ← e2, Nat.zero_add] at f4
  exact f4
def WL (d1 d2 : Con) (i : Nat) : List R3 := (List.range i).flatMap fun k => [(d1.es.map Ent.w3).getD k (none, 0, 0), (d2.es.map Ent.w3).getD k (none, 0, 0)]
theorem WL_succ (d1 d2 : Con) (i : Nat) : WL d1 d2 (i + 1) = WL d1 d2 i ++ [(d1.es.map Ent.w3).getD i (none, 0, 0), (d2.es.map Ent.w3).getD i (none, 0, 0)] := by unfold WL; rw [List.range_succ, List.flatMap_append]; simp
theorem WL_len (d1 d2 : Con) (i : Nat) : (WL d1 d2 i).length = 2 * i := by
  induction i with
  | zero => rfl
  | succ i ih => rw [WL_succ, List.length_append, ih]; simp; omega
theorem w3_get (d : Con) (i : Nat) (h : i < d.es.length) : (d.es.map Ent.w3).getD i (none, 0, 0) = (d.es[i].wa, d.es[i].ws.length, d.es[i].wc) := by
  rw [List.getD_eq_getElem?_getD, List.getElem?_map, List.getElem?_eq_getElem h]; rfl
/-- The list of all lists, while it grows. -/
structure Gx (w6 w13 V : World) (v : Value) (n : Nat) (xs : List Value) : Prop where
  own : V.ownsRow w6.heap.size 22 1 v n xs
  bel : Below w6.heap.size w6 V
  kp : Kp w13 V
section
variable {w6 w13 V V' : World} {v v' : Value} {n : Nat} {xs : List Value}
theorem Gx.below (h : Gx w6 w13 V v n xs) (hb : Below V.heap.size V V') : Gx w6 w13 V' v n xs := ⟨owns_below (B := 0) h.own hb, h.bel.trans (hb.mono h.bel.size), h.kp.trans (Kp.below hb)⟩
theorem Gx.alloc {o : Obj} (h : Gx w6 w13 V v n xs) : Gx w6 w13 (V.alloc o) v n xs := h.below ((Below.refl _ _).alloc (Nat.le_refl _) o)
theorem Gx.drew (h : Gx w6 w13 V v n xs) : Gx w6 w13 V.drew v n xs := h.below (below_drawn (Below.refl _ _) _)
theorem Gx.ge (h : Gx w6 w13 V v n xs) : w6.heap.size ≤ V.heap.size := h.bel.size
theorem Gx.app {m : Nat} {ys : List Value} (h : Gx w6 w13 V v n xs) (ho : V'.ownsRow w6.heap.size 22 1 v' m ys) (hg : V.grownBy V' v.ownBlock) : Gx w6 w13 V' v' m ys :=
  ⟨ho, h.bel.grown hg h.bel.size (fun k hk => (h.own.lt k hk).1), h.kp.trans (Kp.grown h.own hg)⟩
theorem Gx.at {P : Program} {ops : Array Oper} {o : Oper} {a : Act} {K : Act → World → Prop} {Q : Exit → Act → World → Prop} {E : Prop} (h : Gx w6 w13 V v n xs)
    (k : Gx w6 w13 V v n xs → if Region.wanted o (yielded ops a.tmps) = true then Oper.wp P o a V K Q else E) : if Region.wanted o (yielded ops a.tmps) = true then Oper.wp P o a V K Q else E := k h
end
theorem sl_alloc1 {W : World} {a : Option Addr} {l : List Value} {o : Obj} (h : Sl W a l) : Sl (W.alloc o) a l := h.kept ((Below.refl _ _).alloc (Nat.le_refl _) o)
theorem sl_drew1 {W : World} {a : Option Addr} {l : List Value} (h : Sl W a l) : Sl W.drew a l := h.kept (below_drawn (Below.refl _ _) _)
theorem sl_new2 (w : World) (o : Obj) (cs : List Value) (t : TypeId) (fr : Nat × Nat) : Sl ((w.alloc o).alloc (.cells cs.toArray t fr)) (some ⟨w.heap.size + 1, 0, none⟩) cs := by
  have h := sl_new (w.alloc o) cs t fr
  rw [World.size_alloc] at h
  exact h
theorem sl_grown1 {W W' : World} {b : Nat} {l : List Value} {row : Option Nat} (h : Sl W (some ⟨b, 0, none⟩) l) (hg : W.grownBy W' row) (hn : row ≠ some b) : Sl W' (some ⟨b, 0, none⟩) l := by
  intro hne
  obtain ⟨b', o', e, hc⟩ := h hne
  cases e
  refine ⟨b, 0, rfl, fun i hi => ?_⟩
  have h1 := hc i hi
  rw [List.getElem?_eq_getElem hi] at h1 ⊢
  exact hg.cell h1 (fun e => hn e.symm)
theorem nbnd {T i n : Nat} (h1 : T ≤ 5000000) (h2 : n ≤ 3001) (h3 : i < n) : T + 2 * i + 2 ≤ 6000000 := by omega
theorem lens {c d : Con} {e : Ent} (h : d.d = if joinV c e = 0 then joinD c e else conZ.d) : (joinV c e = 0 → d.es.length = c.es.length + 1) ∧ (joinV c e ≠ 0 → d.es.length = 0) := by
  refine ⟨fun h0 => ?_, fun h0 => ?_⟩
  · rw [if_pos h0] at h
    have := congrArg (fun x => x.2.2.length) h
    simpa [Con.d, joinD] using this
  · rw [if_neg h0] at h
    have := congrArg (fun x => x.2.2.length) h
    simpa [Con.d, conZ] using this
theorem fam_of {B : Nat} {W : World} {l : List R3} (h : ∀ r ∈ l, ∃ xs, W.ownsRow B 3 1 (r3 r) r.2.1 xs) (h2 : l.Pairwise fun r s => ∀ b, (r3 r).ownBlock = some b → (r3 s).ownBlock ≠ some b) : Fam B W l := by
  refine ⟨fun i hi => h _ (List.getElem_mem hi), fun i j hi hj hne b e1 e2 => ?_⟩
  have hp := List.pairwise_iff_getElem.1 h2
  rcases Nat.lt_or_gt_of_ne hne with c | c
  · exact hp i j hi hj c b e1 e2
  · exact hp j i hj hi c b e2 e1
theorem fam_to {B : Nat} {W : World} {l : List R3} (h : Fam B W l) : (∀ r ∈ l, ∃ xs, W.ownsRow B 3 1 (r3 r) r.2.1 xs) ∧ l.Pairwise fun r s => ∀ b, (r3 r).ownBlock = some b → (r3 s).ownBlock ≠ some b := by
  refine ⟨fun r hr => ?_, List.pairwise_iff_getElem.2 fun i j hi hj hij => h.dis i j hi hj (by omega)⟩
  obtain ⟨i, hi, rfl⟩ := List.mem_iff_getElem.1 hr
  exact h.own i hi
theorem Fam.perm {B : Nat} {W : World} {l m : List R3} (h : Fam B W l) (hp : l.Perm m) : Fam B W m := by
  obtain ⟨h1, h2⟩ := fam_to h
  exact fam_of (fun r hr => h1 r (hp.mem_iff.2 hr)) ((hp.pairwise_iff (fun {r s} hrs b e1 e2 => hrs b e2 e1)).1 h2)
theorem fam_wishes {B : Nat} {w : World} {d : Con} (h : NewC B w d) (hd : DisE d.es) : Fam B w (d.es.map Ent.w3) := by
  refine ⟨fun i hi => ?_, fun i j hi hj hne b h1 h2 => ?_⟩
  · rw [List.length_map] at hi
    rw [List.getElem_map]
    exact ⟨_, (h.ents _ (List.getElem_mem hi)).row⟩
  · rw [List.length_map] at hi hj
    rw [List.getElem_map] at h1 h2
    exact hd i j hi hj hne b h1 h2
theorem wl_perm (d1 d2 : Con) (h : d1.es.length = d2.es.length) : ∀ i, i ≤ d1.es.length → ((d1.es.map Ent.w3).take i ++ (d2.es.map Ent.w3).take i).Perm (WL d1 d2 i)
  | 0, _ => by simp [WL]
  | i + 1, hi => by
    have ih := wl_perm d1 d2 h i (by omega)
    have e1 : (d1.es.map Ent.w3).take (i + 1) = (d1.es.map Ent.w3).take i ++ [(d1.es.map Ent.w3).getD i (none, 0, 0)] := by
      rw [List.take_succ_eq_append_getElem (by rw [List.length_map]; omega), List.getD_eq_getElem?_getD, List.getElem?_eq_getElem (by rw [List.length_map]; omega)]; rfl
    have e2 : (d2.es.map Ent.w3).take (i + 1) = (d2.es.map Ent.w3).take i ++ [(d2.es.map Ent.w3).getD i (none, 0, 0)] := by
      rw [List.take_succ_eq_append_getElem (by rw [List.length_map]; omega), List.getD_eq_getElem?_getD, List.getElem?_eq_getElem (by rw [List.length_map]; omega)]; rfl
    rw [WL_succ, e1, e2]
    refine List.perm_iff_count.2 (fun x => ?_)
    have := List.perm_iff_count.1 ih x
    simp only [List.count_append, List.count_cons, List.count_nil] at this ⊢
    omega
theorem fam_wl {B : Nat} {W : World} {d1 d2 : Con} (h : d1.es.length = d2.es.length) (h1 : Fam B W (d1.es.map Ent.w3)) (h2 : Fam B W (d2.es.map Ent.w3)) (hd : ∀ b, ownS (d1.es.map Ent.w3) b → ¬ ownS (d2.es.map Ent.w3) b) : Fam B W (WL d1 d2 d1.es.length) := by
  have hp := wl_perm d1 d2 h d1.es.length (Nat.le_refl _)
  rw [List.take_of_length_le (by rw [List.length_map]; exact Nat.le_refl _), List.take_of_length_le (by rw [List.length_map]; omega)] at hp
  exact Fam.perm (fam_append h1 h2 hd) hp
theorem ownS_perm {l m : List R3} (h : l.Perm m) {b : Nat} (hb : ownS m b) : ownS l b := by
  obtain ⟨r, hr, e⟩ := hb
  exact ⟨r, h.mem_iff.2 hr, e⟩
theorem ownS_wl {d1 d2 : Con} (h : d1.es.length = d2.es.length) {b : Nat} (hb : ownS (WL d1 d2 d1.es.length) b) : ownS (d1.es.map Ent.w3) b ∨ ownS (d2.es.map Ent.w3) b := by
  have hp := wl_perm d1 d2 h d1.es.length (Nat.le_refl _)
  rw [List.take_of_length_le (by rw [List.length_map]; exact Nat.le_refl _), List.take_of_length_le (by rw [List.length_map]; omega)] at hp
  exact ownS_append.1 (ownS_perm hp hb)
set_option maxRecDepth 100000 in
set_option maxHeartbeats 8000000 in
theorem walk (it : Wl) (wa : Option Addr) (wc : Nat) (ws : List Wl) (ot : Wl) (c : Con) (e : Ent) (w : World) (hit : WlOk w it) (hws : WsOk w wa ws) (hwm : ws.length ≤ 17592186043904) (hwn : wa = none → ws.length = 0 ∧ wc = 0) (hot : WlOk w ot) (hc : ConOk w c) (he : EntOk w e) :
    Calls Try.prog 8 #[it.v, .slice wa ws.length wc, ot.v, c.agg, e.agg] w fun r w' => r = .returned (.bool true) ∧ Below w.heap.size w w' := by
  obtain ⟨ia, ic, is⟩ := it
  obtain ⟨oa, oc, os⟩ := ot
  have him := hit.mx
  have hom := hot.mx
  unfold Wl.v
  simp only at him hom ⊢
  have HI := Lib.hid hit
  have HW := Lib.hid hws
  have HO := Lib.hid hot
  have HC := Lib.hid hc
  have HE := Lib.hid he
  have HK26 := Lib.hid (fun V (h : Below w.heap.size w V) => lot_any c e V (hc.kept h) (he.kept h))
  have HK28 := Lib.hid (fun V (h : Below w.heap.size w V) (h2 : c.es.length ≤ 3000) => end_any c V (hc.kept h) h2)
  have HK30 := Lib.hid (fun V (h : Below w.heap.size w V) => join_dis c e V (hc.kept h) (he.kept h))
  have HK11 := Lib.hid (fun V (h : Below w.heap.size w V) => many_any ia ic is wa wc ws V him hwm (hws.kept h))
  clear hit hws hwn hot hc he
  unfold Con.agg Ent.agg at *
  go_enter Try.func8, Try.ntmps8
  have HS0 := Lib.hid (show Bs w c e ((w.alloc (.cells #[.int .i64 c.num, .int .i64 c.kind, .int .i64 c.by', .int .i64 c.dl, .int .i64 c.to', .int .i64 c.want, .int .u64 c.price, .int .u64 c.reserve, .int .u64 c.step, .int .i64 c.of', .slice c.ea c.es.length c.ec] 45)).alloc (.cells #[.int .i64 e.acc, .int .i64 e.item, .int .u64 e.coins, .int .u64 e.price, .slice e.wa e.ws.length e.wc] 48)) from
    ⟨alloc_old (alloc_at rfl), alloc_at (by simp), ((Below.refl w.heap.size w).alloc (Nat.le_refl _) _).alloc (by simp) _⟩)
  go_wp2_with fail
  refine (awake_any _).mono ?_
  rintro r0 w1 ⟨rfl, hb⟩
  have HS1 := Lib.hid (HS0.out.kept hb)
  clear hb HS0
  have K11 := Lib.hid (HK11.out w1 HS1.out.bel)
  obtain ⟨p0, p1, p2, p3, p4, p5, p6, p7, p8, p9, p10⟩ := HS1.out.bx.cells
  obtain ⟨q0, q1, q2, q3, q4⟩ := HS1.out.ex.cells
  go_wp2_with fail
  refine K11.out.mono ?_
  rintro r0 w2 ⟨⟨b, rfl, hmn⟩, rfl⟩
  clear K11
  cases b with
  | true =>
    go_wp2
    go_ret
    exact ⟨rfl, HS1.out.bel⟩
  | false =>
  have htot := hmn rfl
  have hil : is.length ≤ 3000 := by omega
  have hwl : ws.length ≤ 3000 := by omega
  clear hmn htot
  go_wp2_with fail
  refine (HK26.out _ HS1.out.bel).mono ?_
  rintro r0 w2 ⟨⟨b, rfl, hbn⟩, hb⟩
  have HS2 := Lib.hid (HS1.out.kept hb)
  clear hb p0 p1 p2 p3 p4 p5 p6 p7 p8 p9 p10 q0 q1 q2 q3 q4 HS1 HK26 HK11
  cases b with
  | true =>
    go_wp2
    go_ret
    exact ⟨rfl, HS2.out.bel⟩
  | false =>
  have hlen := hbn rfl
  have HLE := Lib.hid (show c.es.length ≤ 3000 by omega)
  clear hbn hlen
  by_cases hol : 1000 < os.length
  · have t0 : decide (1000 < (os.length : Int)) = true := by simp; omega
    have t0n : decide (1000 < os.length) = true := by simp; omega
    clear hol
    go_wp2
    go_ret
    exact ⟨rfl, HS2.out.bel⟩
  have t0 : decide (1000 < (os.length : Int)) = false := by simp; omega
  have t0n : decide (1000 < os.length) = false := by simp; omega
  have HOL := Lib.hid (show os.length ≤ 1000 by omega)
  have HIL := Lib.hid hil
  clear hol hil hwl him hom hwm
  go_wp2_with fail
  refine (clear_own (is := is) (by have := HIL.out; omega) (HI.out.kept HS2.out.bel).sl HI.out.wf (HW.out.kept HS2.out.bel) rfl).mono ?_
  rintro r0 w3 ⟨g1, c1, r1, L, N, z1, rfl, hb, hv1, ho1⟩
  have HV1 := Lib.hid hv1
  have HO1 := Lib.hid ho1
  have HRC1 := Lib.hid (show ∀ b, (r3 c1).ownBlock = some b → b < w3.heap.size from fun b h => (ho1.cyc.lt b h).2)
  have HRG1 := Lib.hid (show ∀ b, ownS (g1 :: r1) b → w2.heap.size ≤ b ∧ b < w3.heap.size from fun b h => ho1.fam.lt h)
  have HS3 := Lib.hid (HS2.out.kept hb)
  have HZ23 := Lib.hid hb.size
  clear hb hv1 ho1 t0 t0n
  have mk := make23 os.length (by have := HOL.out; omega) w3
  have hal : Below w3.heap.size w3 (w3.alloc (.cells (List.replicate os.length (.slice none 0 0)).toArray 22)) := (Below.refl _ _).alloc (Nat.le_refl _) _
  have HAL := Lib.hid hal
  have K12 := Lib.hid (clear_own (is := os) (ic := oc) (wc := os.length) (by have := HOL.out; omega) (HO.out.kept (HS3.out.kept hal).bel).sl HO.out.wf (nils_ok os.length w3) (List.length_replicate ..))
  clear hal
  go_wp2_with fail
  refine K12.out.mono ?_
  rintro r0 w4 ⟨g2, c2, r2, L2, N2, z2, rfl, hb, hv2, ho2⟩
  have hb' := HAL.out.trans (hb.mono HAL.out.size)
  have HO2 := Lib.hid ho2
  have HRG2 := Lib.hid (show ∀ b, ownS (g2 :: r2) b → w3.heap.size ≤ b ∧ b < w4.heap.size from fun b h => ⟨Nat.le_trans HAL.out.size (ho2.fam.lt h).1, (ho2.fam.lt h).2⟩)
  have HZ4 := Lib.hid (show w3.heap.size ≤ w4.heap.size from hb'.size)
  have HZ34 := Lib.hid (show w3.heap.size ≤ (w3.alloc (.cells (List.replicate os.length (.slice none 0 0)).toArray 22)).heap.size from HAL.out.size)
  have HO1a := Lib.hid (HO1.out.kept hb')
  have HS4 := Lib.hid (HS3.out.kept hb')
  clear hb hb' hv2 ho2 K12 mk HAL HS3 HO1
  have K12 := Lib.hid (clear_own (is := is) (ic := ic) (wc := wc) (by have := HIL.out; omega) (HI.out.kept HS4.out.bel).sl HI.out.wf (HW.out.kept HS4.out.bel) rfl)
  go_wp2_with fail
  refine K12.out.mono ?_
  rintro r0 w5 ⟨g3, c3, r3', L3, N3, z3, rfl, hb, hv3, ho3⟩
  have ho3 := clo_same (B1 := 0) (W1 := w5) (g1 := g1) (c1 := c1) (r1 := r1) HV1.out hv3 ho3
  have HO3 := Lib.hid ho3
  have HRG3 := Lib.hid (show ∀ b, ownS (g3 :: r3') b → w4.heap.size ≤ b ∧ b < w5.heap.size from fun b h => ho3.fam.lt h)
  have HO2a := Lib.hid (HO2.out.kept hb)
  have HO1b := Lib.hid (HO1a.out.kept hb)
  have HS5 := Lib.hid (HS4.out.kept hb)
  have HZ45 := Lib.hid hb.size
  clear hb hv3 ho3 K12 HS4 HO2 HO1a
  -- want
  obtain ⟨ga, gn, gc⟩ := g1
  obtain ⟨gb, gm, gd⟩ := g2
  obtain ⟨gx, gy, gz⟩ := g3
  obtain ⟨ca, cn, cc⟩ := c1
  obtain ⟨cb, cm, cd⟩ := c2
  obtain ⟨cx, cy, cz⟩ := c3
  have HN1 := Lib.hid (show gn = L.length ∧ gy = L.length ∧ cn = N ∧ cy = N ∧ N ≤ 1000000 ∧ gn ≤ 1000000 from ⟨HO1b.out.gl, HO3.out.gl, HO1b.out.cl, HO3.out.cl, HO1b.out.nx, HO1b.out.mx (ga, gn, gc) (List.mem_cons_self ..)⟩)
  have HN2 := Lib.hid (show cm = N2 ∧ N2 ≤ 1000000 ∧ gm ≤ 1000000 from ⟨HO2a.out.cl, HO2a.out.nx, HO2a.out.mx (gb, gm, gd) (List.mem_cons_self ..)⟩)
  unfold r3
  have hs1 : Sl w5 ga (vI L) := by
    obtain ⟨a', c', hv, _, hs, _⟩ := Go.K.owns_slice HO1b.out.got
    injection hv with h1 h2 h3
    have h1 : ga = a' := h1
    rw [h1]; exact hs
  have HG1 := Lib.hid (show ga = none → gn = 0 ∧ gc = 0 from by
    obtain ⟨a', c', hv, hn, _, _⟩ := Go.K.owns_slice HO1b.out.got
    injection hv with h1 h2 h3
    intro h
    have h1 : ga = a' := h1
    have h3 : gc = c' := h3
    rw [h3]
    exact ⟨(hn (h1 ▸ h)).1, (hn (h1 ▸ h)).2⟩)
  have HSL := Lib.hid hs1
  have h63 : 0 + gn ≤ maxLen := by unfold maxLen; have := HN1.out; omega
  have hby : (0 + gn) * 8 ≤ 140737488355328 := by have := HN1.out; omega
  have HL1 := Lib.hid (show (vI L).length = gn * 1 by rw [vI_length, HN1.out.1]; omega)
  clear hs1
  go_wp2_with (at_builtin; refine wpList_append_sl rfl _ _ 22 rfl w5.heap.size 3 (.int .i64 0) 1 8 Try.underlying22 infoI rfl (by decide) (.slice none 0 0) 0 [] rfl (World.ownsRow_nil _ _ _ _) ga gn gc (vI L) rfl HG1.out HL1.out HSL.out (oneCell_vI _) h63 hby (Nat.le_refl _) ?a1)
  intro vw w6 how hgw
  have hb6 : Below w5.heap.size w5 w6 := (Below.refl _ _).grown hgw (Nat.le_refl _) (fun k hk => by cases hk)
  obtain ⟨aw, cw, hvw, _, _, _⟩ := Go.K.owns_slice how
  subst hvw
  have HOW := Lib.hid (show w6.ownsRow w5.heap.size 3 1 (.slice aw gn cw) gn (vI L) from how)
  have HO3a := Lib.hid (HO3.out.kept hb6)
  have HO2b := Lib.hid (HO2a.out.kept hb6)
  have HO1c := Lib.hid (HO1b.out.kept hb6)
  have HS6 := Lib.hid (HS5.out.kept hb6)
  have HZ56 := Lib.hid hb6.size
  clear how hgw hb6 h63 hby HSL HG1 HL1 HO3 HO2a HO1b HS5
  -- all
  obtain ⟨X1, hX1⟩ : ∃ X1 : List Value, X1 = [.slice ga gn gc, .slice gb gm gd, .slice gx gy gz] := ⟨_, rfl⟩
  have HX1 := Lib.hid hX1
  have hba : Below w6.heap.size w6 (w6.alloc (.cells #[.slice ga gn gc, .slice gb gm gd, .slice gx gy gz] 22)) := (Below.refl _ _).alloc (Nat.le_refl _) _
  have HOA := Lib.hid (show (w6.alloc (.cells #[.slice ga gn gc, .slice gb gm gd, .slice gx gy gz] 22)).ownsRow w6.heap.size 22 1 (.slice (some ⟨w6.heap.size, 0, none⟩) 3 3) 3 X1 from by
    rw [hX1]
    exact ⟨rfl, .inr ⟨w6.heap.size, 3, _, rfl, Nat.le_refl _, alloc_at rfl, Nat.le_refl _, by decide, rfl, rfl⟩⟩)
  have HBA := Lib.hid hba
  have slOf : ∀ {V : World} {B : Nat} {a : Option Addr} {n c : Nat} {xs : List Value}, V.ownsRow B 22 1 (.slice a n c) n xs → Sl V a xs ∧ (a = none → n = 0 ∧ c = 0) ∧ xs.length = n * 1 := by
    intro V B a n c xs h
    obtain ⟨a', c', hv, hn, hs, _⟩ := Go.K.owns_slice h
    injection hv with h1 h2 h3
    rw [h1, h3]
    exact ⟨hs, hn, h.1⟩
  have oneS : ∀ l : List R3, ∀ u ∈ l.map r3, u.oneCell' = true := by
    intro l u hu
    obtain ⟨r, _, rfl⟩ := List.mem_map.1 hu
    rfl
  have q1 := slOf (HO1c.out.kept hba).cyc
  have HQ1 := Lib.hid q1
  have h63 : 3 + cn ≤ maxLen := by unfold maxLen; have := HN1.out; omega
  have hby : (3 + cn) * 24 ≤ 140737488355328 := by have := HN1.out; omega
  clear q1 hba hX1
  go_wp2_with (at_builtin; refine wpList_append_sl rfl _ _ 23 rfl w6.heap.size 22 (.slice none 0 0) 1 24 Try.underlying23 liS rfl (by decide) (.slice (some ⟨w6.heap.size, 0, none⟩) 3 3) 3 X1 rfl HOA.out ca cn cc (r1.map r3) rfl HQ1.out.2.1 HQ1.out.2.2 HQ1.out.1 (oneS r1) h63 hby HBA.out.size ?a2)
  intro v7 w7 ho7 hg7
  have hb7 : Below w6.heap.size w6 w7 := HBA.out.grown hg7 HBA.out.size (fun k hk => by have e : w6.heap.size = k := Option.some.inj hk; omega)
  have HB7 := Lib.hid hb7
  have HO7 := Lib.hid ho7
  have q2 := slOf (HO2b.out.kept hb7).cyc
  have HQ2 := Lib.hid q2
  have h63 : 3 + cn + cm ≤ maxLen := by unfold maxLen; have := HN1.out; have := HN2.out; omega
  have hby : (3 + cn + cm) * 24 ≤ 140737488355328 := by have := HN1.out; have := HN2.out; omega
  clear ho7 hg7 hb7 q2 HOA HQ1 HBA
  go_wp2_with (at_builtin; refine wpList_append_sl rfl _ _ 23 rfl w6.heap.size 22 (.slice none 0 0) 1 24 Try.underlying23 liS rfl (by decide) v7 (3 + cn) (X1 ++ r1.map r3) rfl HO7.out cb cm cd (r2.map r3) rfl HQ2.out.2.1 HQ2.out.2.2 HQ2.out.1 (oneS r2) h63 hby HB7.out.size ?a3)
  intro v8 w8 ho8 hg8
  have hb8 : Below w6.heap.size w6 w8 := HB7.out.grown hg8 HB7.out.size (fun k hk => (HO7.out.lt k hk).1)
  have HB8 := Lib.hid hb8
  have HO8 := Lib.hid ho8
  have q3 := slOf (HO3a.out.kept hb8).cyc
  have HQ3 := Lib.hid q3
  have h63 : 3 + cn + cm + cy ≤ maxLen := by unfold maxLen; have := HN1.out; have := HN2.out; omega
  have hby : (3 + cn + cm + cy) * 24 ≤ 140737488355328 := by have := HN1.out; have := HN2.out; omega
  clear ho8 hg8 hb8 q3 HO7 HQ2 HB7
  go_wp2_with (at_builtin; refine wpList_append_sl rfl _ _ 23 rfl w6.heap.size 22 (.slice none 0 0) 1 24 Try.underlying23 liS rfl (by decide) v8 (3 + cn + cm) _ rfl HO8.out cx cy cz (r3'.map r3) rfl HQ3.out.2.1 HQ3.out.2.2 HQ3.out.1 (oneS r3') h63 hby HB8.out.size ?a4)
  intro v9 w9 ho9 hg9
  have hb9 : Below w6.heap.size w6 w9 := HB8.out.grown hg9 HB8.out.size (fun k hk => (HO8.out.lt k hk).1)
  have HB9 := Lib.hid hb9
  have HZ69 := Lib.hid hb9.size
  have HR9 := Lib.hid ho9
  obtain ⟨T, hT⟩ : ∃ T, T = 3 + cn + cm + cy := ⟨_, rfl⟩
  obtain ⟨LS, hLS⟩ : ∃ LS : List R3, LS = [(ga, gn, gc), (gb, gm, gd), (gx, gy, gz)] ++ r1 ++ r2 ++ r3' := ⟨_, rfl⟩
  have HLS := Lib.hid hLS
  have HOA := Lib.hid (show w9.ownsRow w6.heap.size 22 1 v9 T (LS.map r3) from by
    have h := HR9.out
    rw [← hT] at h
    rw [hLS]
    simp only [List.map_append, List.map_cons, List.map_nil]
    have e : ([r3 (ga, gn, gc), r3 (gb, gm, gd), r3 (gx, gy, gz)] : List Value) = X1 := HX1.out.symm
    rw [e]
    simpa only [List.append_assoc] using h)
  have HTT := Lib.hid (show T = LS.length ∧ T ≤ 5000000 from by
    have h1 := HO1c.out.rl
    have h2 := HO2b.out.rl
    have h3 := HO3a.out.rl
    have h4 := HN1.out
    have h5 := HN2.out
    rw [hLS, hT]
    simp only [List.length_append, List.length_cons, List.length_nil]
    omega)
  have HO1d := Lib.hid (HO1c.out.kept hb9)
  have HO2c := Lib.hid (HO2b.out.kept hb9)
  have HO3b := Lib.hid (HO3a.out.kept hb9)
  have HOW9 := Lib.hid (owns_below (B := 0) HOW.out hb9)
  have HS9 := Lib.hid (HS6.out.kept hb9)
  have HFAM := Lib.hid (show Fam w2.heap.size w6 LS from by
    have f1 := HO1c.out.fam
    have f2 := (HO2b.out.fam).base (B' := w2.heap.size) (by have := HZ23.out; have := HZ34.out; omega)
    have f3 := (HO3a.out.fam).base (B' := w2.heap.size) (by have h1 := HZ23.out; have h2 := HZ34.out; have h3 := HZ4.out; omega)
    have f12 := fam_append f1 f2 (fun b h1 h2 => by have := HRG1.out b h1; have := HRG2.out b h2; omega)
    have f := fam_append f12 f3 (fun b h1 h2 => by
      have h3 := HRG3.out b h2
      have h4 := HZ4.out
      rcases ownS_append.1 h1 with h | h
      · have := HRG1.out b h; omega
      · have := HRG2.out b h; omega)
    refine Fam.perm f ?_
    rw [hLS]
    refine List.perm_iff_count.2 (fun x => ?_)
    simp only [List.count_append, List.count_cons, List.count_nil]
    omega)
  clear ho9 hg9 hb9 HO8 HQ3 HB8 h63 hby hT hLS slOf oneS
  -- the joins
  have HSZ9 := Lib.hid HS9.out.ge
  obtain ⟨p0, p1, p2, p3, p4, p5, p6, p7, p8, p9, p10⟩ := HS9.out.bx.cells
  obtain ⟨q0, q1, q2, q3, q4⟩ := HS9.out.ex.cells
  have K30 := Lib.hid (HK30.out w9 HS9.out.bel)
  go_wp2_with fail
  refine K30.out.mono ?_
  rintro r0 w10 ⟨d1, rfl, hb10, hn1, hd1, hx1⟩
  have HD1 := Lib.hid (And.intro hd1 hx1)
  have HNC1 := Lib.hid hn1
  have HRD1 := Lib.hid (show (∀ x ∈ d1.es, ∀ b, (r3 x.w3).ownBlock = some b → w9.heap.size ≤ b ∧ b < w10.heap.size) ∧ ∀ b, (Value.slice d1.ea d1.es.length d1.ec).ownBlock = some b → w9.heap.size ≤ b ∧ b < w10.heap.size from ⟨fun x hx b h => (hn1.ents x hx).row.lt b h, fun b h => hn1.row.lt b h⟩)
  have HB10 := Lib.hid hb10
  have HS10 := Lib.hid (HS9.out.kept hb10)
  clear hb10 hn1 hd1 hx1 K30 p0 p1 p2 p3 p4 p5 p6 p7 p8 p9 p10 q0 q1 q2 q3 q4
  go_wp2_with ((with_reducible refine at_store_op ?_); refine wpList_store_lit 45 w10.heap.size 0 #[.int .i64 d1.num, .int .i64 d1.kind, .int .i64 d1.by', .int .i64 d1.dl, .int .i64 d1.to', .int .i64 d1.want, .int .u64 d1.price, .int .u64 d1.reserve, .int .u64 d1.step, .int .i64 d1.of', .slice d1.ea d1.es.length d1.ec] d1.agg (alloc_at rfl) szC (Nat.le_of_ble_eq_true rfl) rfl rfl ?_ ?_ ?_; exact rfl; exact rfl; intro w11 hp11; have hb11 : Below w10.heap.size w10 w11 := hp11.below ((Below.refl w10.heap.size w10).alloc (Nat.le_refl _) _) ((Below.refl w10.heap.size w10).alloc (Nat.le_refl _) _).size (Nat.le_refl _); have HS11 := Lib.hid (HS10.out.kept hb11); obtain ⟨p0, p1, p2, p3, p4, p5, p6, p7, p8, p9, p10⟩ := HS11.out.bx.cells; obtain ⟨q0, q1, q2, q3, q4⟩ := HS11.out.ex.cells)
  have HBX := Lib.hid (show Box w11 w10.heap.size d1 from hp11.at')
  have HB11 := Lib.hid hb11
  have HNC1a := Lib.hid (HNC1.out.kept hb11)
  obtain ⟨bx, hbx⟩ : ∃ bx, bx = w10.heap.size := ⟨_, rfl⟩
  have HBXE := Lib.hid hbx
  rw [← hbx] at HBX ⊢
  have K30 := Lib.hid (HK30.out w11 HS11.out.bel)
  clear hp11 hb11 HNC1 HS10 hbx
  refine K30.out.mono ?_
  rintro r0 w12 ⟨d2, rfl, hb12, hn2, hd2, hx2⟩
  have HD2 := Lib.hid (And.intro hd2 hx2)
  have HNC2 := Lib.hid hn2
  have HB12 := Lib.hid hb12
  have HS12 := Lib.hid (HS11.out.kept hb12)
  have HNC1b := Lib.hid (HNC1a.out.kept hb12)
  have HBX12 := Lib.hid (HBX.out.kept hb12)
  clear hb12 hn2 hd2 hx2 K30 p0 p1 p2 p3 p4 p5 p6 p7 p8 p9 p10 q0 q1 q2 q3 q4 HNC1a HBX HS11
  go_wp2_with ((with_reducible refine at_store_op ?_); refine wpList_store_lit 45 w12.heap.size 0 #[.int .i64 d2.num, .int .i64 d2.kind, .int .i64 d2.by', .int .i64 d2.dl, .int .i64 d2.to', .int .i64 d2.want, .int .u64 d2.price, .int .u64 d2.reserve, .int .u64 d2.step, .int .i64 d2.of', .slice d2.ea d2.es.length d2.ec] d2.agg (alloc_at rfl) szC (Nat.le_of_ble_eq_true rfl) rfl rfl ?_ ?_ ?_; exact rfl; exact rfl; intro w13 hp13)
  have hb13 : Below w12.heap.size w12 w13 := hp13.below ((Below.refl w12.heap.size w12).alloc (Nat.le_refl _) _) ((Below.refl w12.heap.size w12).alloc (Nat.le_refl _) _).size (Nat.le_refl _)
  have HBY := Lib.hid (show Box w13 w12.heap.size d2 from hp13.at')
  have HBXc := Lib.hid (HBX12.out.kept hb13)
  have HN1c := Lib.hid (HNC1b.out.kept hb13)
  have HN2c := Lib.hid (HNC2.out.kept hb13)
  have HB69 := HB9.out
  have hb6a := HB69.trans (HB10.out.mono HB69.size)
  have hb6b := hb6a.trans (HB11.out.mono hb6a.size)
  have hb6c := hb6b.trans (HB12.out.mono hb6b.size)
  have HB6D := Lib.hid (hb6c.trans (hb13.mono hb6c.size))
  have hoa := owns_below (B := 0) (owns_below (B := 0) (owns_below (B := 0) (owns_below (B := 0) HOA.out HB10.out) HB11.out) HB12.out) hb13
  have HG0 := Lib.hid (show Gx w6 w13 w13 v9 (T + 2 * 0) ((LS ++ WL d1 d2 0).map r3) from ⟨by rw [show LS ++ WL d1 d2 0 = LS by unfold WL; simp]; exact hoa, HB6D.out, Kp.refl _⟩)
  have HBYX := Lib.hid (show bx < w12.heap.size ∧ w9.heap.size ≤ bx from ⟨lt_row HBX12.out, by rw [HBXE.out]; exact HB10.out.size⟩)
  have HW13 := Lib.hid (show w9.heap.size ≤ w10.heap.size ∧ w10.heap.size ≤ w11.heap.size ∧ w11.heap.size ≤ w12.heap.size ∧ w12.heap.size ≤ w13.heap.size from ⟨HB10.out.size, HB11.out.size, HB12.out.size, hb13.size⟩)
  obtain ⟨by', hby'⟩ : ∃ by', by' = w12.heap.size := ⟨_, rfl⟩
  have HBYE := Lib.hid hby'
  rw [← hby'] at HBY ⊢
  have e12 : d1.es.length = d2.es.length := by
    have := congrArg (fun x => x.2.2.length) (HD1.out.1.trans HD2.out.1.symm)
    simpa [Con.d] using this
  have HLEN := Lib.hid (And.intro e12 (And.intro (lens HD1.out.1) (lens HD2.out.1)))
  have hd13 : d1.es.length ≤ 3001 := by
    have h1 := lens HD1.out.1
    have h2 := HLE.out
    by_cases h : joinV c e = 0
    · have := h1.1 h; omega
    · have := h1.2 h; omega
  have HD13 := Lib.hid hd13
  clear hp13 hb13 HB69 hb6a hb6b hb6c hoa hby' e12 hd13 HBX12 HNC1b HNC2 HB10 HB11 HB12 HOA HB9
  go_loopw [21, 30] (fun v' x30 V => ∃ (i : Nat) (v : Value), v = v' ∧ i ≤ d1.es.length ∧ x30 = .int .i64 i ∧ Gx w6 w13 V v (T + 2 * i) ((LS ++ WL d1 d2 i).map r3)) (fun _ x30 _ => d1.es.length - (intOf x30).toNat)
  case atStart => exact ⟨0, _, rfl, Nat.zero_le _, rfl, HG0.out⟩
  case round =>
    clear HG0
    obtain ⟨i, v, hv, hi, rfl, hgx⟩ := hrel
    subst hv
    have HG := Lib.hid hgx
    clear hgx
    by_cases hlt : i < d1.es.length
    case pos =>
      obtain ⟨o1, cs1, ha1, hr1, hc1⟩ := NewC.at_ent HN1c.out i hlt
      have hlt2 : i < d2.es.length := by have := HLEN.out.1; omega
      obtain ⟨o2, cs2, ha2, hr2, hc2⟩ := NewC.at_ent HN2c.out i hlt2
      have HW1 := Lib.hid (w3_get d1 i hlt)
      have HW2 := Lib.hid (w3_get d2 i hlt2)
      obtain ⟨x1, hx1⟩ : ∃ x, x = d1.es[i].wa := ⟨_, rfl⟩
      obtain ⟨m1, hm1⟩ : ∃ x, x = d1.es[i].ws.length := ⟨_, rfl⟩
      obtain ⟨k1, hk1⟩ : ∃ x, x = d1.es[i].wc := ⟨_, rfl⟩
      obtain ⟨x2, hx2⟩ : ∃ x, x = d2.es[i].wa := ⟨_, rfl⟩
      obtain ⟨m2, hm2⟩ : ∃ x, x = d2.es[i].ws.length := ⟨_, rfl⟩
      obtain ⟨k2, hk2⟩ : ∃ x, x = d2.es[i].wc := ⟨_, rfl⟩
      rw [← hx1, ← hm1, ← hk1] at hc1 HW1
      rw [← hx2, ← hm2, ← hk2] at hc2 HW2
      have hb1 : w13.cell? ⟨bx, 10, none⟩ = some (.slice (some ⟨o1, 0, none⟩) d1.es.length d1.ec) := by rw [← ha1]; exact HBXc.out.cells.2.2.2.2.2.2.2.2.2.2
      have hb2 : w13.cell? ⟨by', 10, none⟩ = some (.slice (some ⟨o2, 0, none⟩) d2.es.length d2.ec) := by rw [← ha2]; exact HBY.out.cells.2.2.2.2.2.2.2.2.2.2
      have HCL := Lib.hid (fun V (h : Kp w13 V) => show V.cell? ⟨bx, 10, none⟩ = some (.slice (some ⟨o1, 0, none⟩) d1.es.length d1.ec) ∧ V.cell? ⟨o1, i * 5 + 4, none⟩ = some (.slice x1 m1 k1) ∧ V.cell? ⟨by', 10, none⟩ = some (.slice (some ⟨o2, 0, none⟩) d2.es.length d2.ec) ∧ V.cell? ⟨o2, i * 5 + 4, none⟩ = some (.slice x2 m2 k2) from
        ⟨h.cell HBXc.out (by decide) hb1, h.cell hr1 (by decide) hc1, h.cell HBY.out (by decide) hb2, h.cell hr2 (by decide) hc2⟩)
      obtain ⟨z1, z2, z3, z4⟩ := HCL.out wr HG.out.kp
      have t5 : decide ((i : Int) < (d1.es.length : Int)) = true := decide_eq_true (by omega)
      have t5n : decide (i < d1.es.length) = true := decide_eq_true hlt
      have i1 : (i : Int) < (d1.es.length : Int) := by omega
      have i2 : (i : Int) < (d2.es.length : Int) := by omega
      have w2 : IntKind.i64.wrap ((i : Int) + 1) = ((i + 1 : Nat) : Int) := by rw [IntKind.wrap_i64]; have := HD13.out; omega
      have hnb : T + 2 * i + 2 ≤ 6000000 := nbnd HTT.out.2 HD13.out hlt
      have h63 : T + 2 * i + 1 ≤ maxLen := Nat.le_trans (Nat.le_succ _) (Nat.le_trans hnb (by unfold maxLen; decide))
      have hby : (T + 2 * i + 1) * 24 ≤ 140737488355328 := Nat.le_trans (Nat.mul_le_mul_right 24 (Nat.le_trans (Nat.le_succ _) hnb)) (by decide)
      have h63b : T + 2 * i + 1 + 1 ≤ maxLen := Nat.le_trans hnb (by unfold maxLen; decide)
      have hbyb : (T + 2 * i + 1 + 1) * 24 ≤ 140737488355328 := Nat.le_trans (Nat.mul_le_mul_right 24 hnb) (by decide)
      clear hnb
      have HI := Lib.hid hlt
      have HVN := Lib.hid (show ∀ b, wr.heap.size ≤ b → v.ownBlock ≠ some b from fun b hb e => Nat.lt_irrefl _ (Nat.lt_of_lt_of_le (HG.out.own.lt b e).2 hb))
      have hG := HG.out
      obtain ⟨XS, hXS⟩ : ∃ XS, XS = (LS ++ WL d1 d2 i).map r3 := ⟨_, rfl⟩
      rw [← hXS] at hG
      have HXS := Lib.hid hXS
      clear hlt hlt2 hi hr1 hr2 hc1 hc2 hb1 hb2 hx1 hm1 hk1 hx2 hm2 hk2 ha1 ha2 hXS
      go_upto_region 17 with fail
      go_region_held3 (fun V => V.cell? ⟨bx, 10, none⟩ = some (.slice (some ⟨o1, 0, none⟩) d1.es.length d1.ec) ∧ V.cell? ⟨o1, i * 5 + 4, none⟩ = some (.slice x1 m1 k1) ∧ V.cell? ⟨by', 10, none⟩ = some (.slice (some ⟨o2, 0, none⟩) d2.es.length d2.ec) ∧ V.cell? ⟨o2, i * 5 + 4, none⟩ = some (.slice x2 m2 k2)) (first | assumption | exact HCL.out _ (by first | exact hG.drew.kp | exact hG.alloc.drew.kp | exact hG.alloc.alloc.drew.kp | exact hG2.kp | exact hG2.alloc.kp | exact hG.kp | exact hG.alloc.kp))
        ((first
          | (refine Gx.at (by first | exact hG.drew | exact hG.alloc.drew | exact hG.alloc.alloc.drew | exact hG | exact hG.alloc | exact hG.alloc.alloc) (fun hGw => ?_)
             refine step_append_sl_at (by rfl) _ _ 23 (by rfl) w6.heap.size 22 (.slice none 0 0) 1 24 Try.underlying23 liS (by rfl) (by decide) v (T + 2 * i) XS (by rfl) hGw.own (some _) 1 1 [.slice x1 m1 k1] (by rfl) (fun h => by cases h) (by rfl) (by first | exact sl_drew1 (sl_new _ _ _ _) | exact sl_drew1 (sl_alloc1 (sl_new _ _ _ _)) | exact sl_drew1 (sl_new2 _ _ _ _ _) | exact sl_new _ _ _ _ | exact sl_alloc1 (sl_new _ _ _ _) | exact sl_new2 _ _ _ _ _) (one_sl _ _ _ _ rfl) h63 hby hGw.ge ?_
             intro v2 w2 ho2 hg2 hl2
             have hG2 := hGw.app ho2 hg2
             have hC2 := HCL.out w2 hG2.kp
             try (have hs2 : Sl w2 (some ⟨wr.heap.size, 0, none⟩) [.slice x2 m2 k2] := sl_grown1 (by first | exact sl_drew1 (sl_alloc1 (sl_new _ _ _ _)) | exact sl_alloc1 (sl_new _ _ _ _)) hg2 (HVN.out _ (Nat.le_refl _)))
             try (have hs3 : Sl w2 (some ⟨wr.heap.size + 1, 0, none⟩) [.slice x2 m2 k2] := sl_grown1 (by first | exact sl_drew1 (sl_new2 _ _ _ _ _) | exact sl_new2 _ _ _ _ _) hg2 (HVN.out _ (Nat.le_succ _)))
             clear hGw)
          | (refine Gx.at (by first | exact hG2 | exact hG2.alloc) (fun hGw => ?_)
             refine step_append_sl_at (by rfl) _ _ 23 (by rfl) w6.heap.size 22 (.slice none 0 0) 1 24 Try.underlying23 liS (by rfl) (by decide) v2 (T + 2 * i + 1) (XS ++ [.slice x1 m1 k1]) (by rfl) hGw.own (some _) 1 1 [.slice x2 m2 k2] (by rfl) (fun h => by cases h) (by rfl) (by first | assumption | exact sl_new _ _ _ _) (one_sl _ _ _ _ rfl) h63b hbyb hGw.ge ?_
             intro v3 w3' ho3 hg3 hl3
             have hG3 := hGw.app ho3 hg3
             have hC3 := HCL.out w3' hG3.kp
             clear hGw)))
      all_goals
        have HG3 := Lib.hid (show Gx w6 w13 w3' v3 (T + 2 * (i + 1)) ((LS ++ WL d1 d2 (i + 1)).map r3) from by
          have h := hG3
          rw [WL_succ, ← List.append_assoc, List.map_append, ← HXS.out, HW1.out, HW2.out]
          have e : T + 2 * (i + 1) = T + 2 * i + 1 + 1 := by omega
          rw [e]
          simp only [List.append_assoc] at h
          exact h)
        clear hG hG2 hG3 hC2 hC3
        go_wp2
        go_roundw
        case rel => exact ⟨i + 1, _, rfl, HI.out, by go_num, HG3.out⟩
        case measure => have := HI.out; simp [intOf]; omega
    case neg =>
      obtain rfl : i = d1.es.length := by omega
      have hG := HG.out
      have hbe := hG.bel
      have HBV := Lib.hid (HS6.out.kept hbe)
      have HP1 := Lib.hid (HO1c.out.kept hbe)
      have HP3 := Lib.hid (HO3a.out.kept hbe)
      have HPW := Lib.hid (owns_below (B := 0) HOW.out hbe)
      have HE1 := Lib.hid (Kp.newC hG.kp HN1c.out)
      have HE2 := Lib.hid (Kp.newC hG.kp HN2c.out)
      have HBXr := Lib.hid (show Box wr bx d1 from hG.kp _ _ _ (by decide) HBXc.out)
      have HBYr := Lib.hid (show Box wr by' d2 from hG.kp _ _ _ (by decide) HBY.out)
      have HZ := Lib.hid (show w2.heap.size ≤ w3.heap.size ∧ w3.heap.size ≤ w4.heap.size ∧ w4.heap.size ≤ w5.heap.size ∧ w5.heap.size ≤ w6.heap.size ∧ w6.heap.size ≤ w9.heap.size ∧ w9.heap.size ≤ w10.heap.size ∧ w10.heap.size ≤ w11.heap.size ∧ w6.heap.size ≤ wr.heap.size from ⟨HZ23.out, HZ4.out, HZ45.out, HZ56.out, HZ69.out, HW13.out.1, HW13.out.2.1, hbe.size⟩)
      have HWLD := Lib.hid (show ∀ b, ownS (WL d1 d2 d1.es.length) b → w9.heap.size ≤ b from fun b hb => by
        rcases ownS_wl HLEN.out.1 hb with h | h
        · exact ((fam_wishes HE1.out HD1.out.2).lt h).1
        · have := ((fam_wishes HE2.out HD2.out.2).lt h).1; have := HZ.out; omega)
      have HLSB := Lib.hid (show ∀ b, ownS LS b → w2.heap.size ≤ b ∧ b < w6.heap.size from fun b hb => HFAM.out.lt hb)
      have HFW := Lib.hid (show Fam w2.heap.size wr (LS ++ WL d1 d2 d1.es.length) from by
        refine fam_append (HFAM.out.kept hbe) ?_ (fun b h1 h2 => ?_)
        · refine fam_wl HLEN.out.1 ((fam_wishes HE1.out HD1.out.2).base (by have := HZ.out; omega)) ((fam_wishes HE2.out HD2.out.2).base (by have := HZ.out; omega)) (fun b h1 h2 => ?_)
          have h3 := ((fam_wishes HE2.out HD2.out.2).lt h2).1
          obtain ⟨r, hr, e⟩ := h1
          obtain ⟨x, hx, rfl⟩ := List.mem_map.1 hr
          have := (HRD1.out.1 x hx b e).2
          have := HZ.out
          omega
        · have := (HLSB.out b h1).2
          have := HWLD.out b h2
          have := HZ.out
          omega)
      obtain ⟨av, cv, hvv, _, hsv, _⟩ := Go.K.owns_slice hG.own
      subst hvv
      have HOV := Lib.hid hG.own
      have HSV := Lib.hid hsv
      obtain ⟨LS2, hLS2⟩ : ∃ LS2, LS2 = LS ++ WL d1 d2 d1.es.length := ⟨_, rfl⟩
      obtain ⟨N2x, hN2⟩ : ∃ N2x, N2x = T + 2 * d1.es.length := ⟨_, rfl⟩
      have hl2 : LS2.length = N2x := by rw [hLS2, hN2, List.length_append, WL_len, ← HTT.out.1]
      rw [← hLS2] at HFW HSV HOV
      rw [← hN2] at HOV ⊢
      have HL2 := Lib.hid hl2
      have HNB := Lib.hid (show N2x ≤ 6000000 from by rw [hN2]; have h1 := HTT.out.2; have h2 := HD13.out; omega)
      have HLW := Lib.hid (show ∀ b, ownS LS2 b → (w2.heap.size ≤ b ∧ b < w6.heap.size) ∨ w9.heap.size ≤ b from fun b hb => by
        rw [hLS2] at hb
        rcases ownS_append.1 hb with h | h
        · exact .inl (HLSB.out b h)
        · exact .inr (HWLD.out b h))
      have HLW2 := Lib.hid (show ∀ b, ownS LS b → b < w5.heap.size from fun b hb => by
        obtain ⟨r, hr, e⟩ := hb
        have hz := HZ.out
        rw [HLS.out] at hr
        simp only [List.mem_append, List.mem_cons, List.not_mem_nil, or_false] at hr
        rcases hr with (((rfl | rfl | rfl) | h) | h) | h
        · have := HRG1.out b ⟨_, List.mem_cons_self .., e⟩; omega
        · have := HRG2.out b ⟨_, List.mem_cons_self .., e⟩; omega
        · have := HRG3.out b ⟨_, List.mem_cons_self .., e⟩; omega
        · have := HRG1.out b ⟨_, List.mem_cons_of_mem _ h, e⟩; omega
        · have := HRG2.out b ⟨_, List.mem_cons_of_mem _ h, e⟩; omega
        · have := HRG3.out b ⟨_, List.mem_cons_of_mem _ h, e⟩; omega)
      have HMX := Lib.hid (show ∀ r ∈ LS2, r.2.1 ≤ 17592186043904 from fun r hr => by
        rw [hLS2, HLS.out] at hr
        have m1 := HP1.out.mx
        have m3 := HP3.out.mx
        have m2 := HO2b.out.mx
        rcases List.mem_append.1 hr with hr | hr
        · simp only [List.mem_append, List.mem_cons, List.not_mem_nil, or_false] at hr
          rcases hr with (((rfl | rfl | rfl) | h) | h) | h
          · exact Nat.le_trans (m1 _ (List.mem_cons_self ..)) (by decide)
          · exact Nat.le_trans (m2 _ (List.mem_cons_self ..)) (by decide)
          · exact Nat.le_trans (m3 _ (List.mem_cons_self ..)) (by decide)
          · exact Nat.le_trans (m1 _ (List.mem_cons_of_mem _ h)) (by decide)
          · exact Nat.le_trans (m2 _ (List.mem_cons_of_mem _ h)) (by decide)
          · exact Nat.le_trans (m3 _ (List.mem_cons_of_mem _ h)) (by decide)
        · have hp := wl_perm d1 d2 HLEN.out.1 d1.es.length (Nat.le_refl _)
          rw [List.take_of_length_le (by rw [List.length_map]; exact Nat.le_refl _), List.take_of_length_le (by rw [List.length_map]; have := HLEN.out.1; omega)] at hp
          rcases List.mem_append.1 (hp.mem_iff.2 hr) with h | h
          · obtain ⟨x, hx, rfl⟩ := List.mem_map.1 h; exact (HE1.out.ents x hx).mx
          · obtain ⟨x, hx, rfl⟩ := List.mem_map.1 h; exact (HE2.out.ents x hx).mx)
      -- of what changes
      obtain ⟨Z, hZ⟩ : ∃ Z : Nat → Prop, Z = fun x => ownS LS2 x ∨ ((Value.slice ca cn cc).ownBlock = some x ∨ (Value.slice cx cy cz).ownBlock = some x) ∨ ((Value.slice d1.ea d1.es.length d1.ec).ownBlock = some x ∨ (Value.slice d2.ea d2.es.length d2.ec).ownBlock = some x) := ⟨_, rfl⟩
      have HC1 := Lib.hid (show ∀ b, (Value.slice ca cn cc).ownBlock = some b → w2.heap.size ≤ b ∧ b < w3.heap.size from fun b h => ⟨(HP1.out.cyc.lt b h).1, HRC1.out b h⟩)
      have HC3 := Lib.hid (show ∀ b, (Value.slice cx cy cz).ownBlock = some b → w4.heap.size ≤ b ∧ b < w6.heap.size from fun b h => ⟨(HP3.out.cyc.lt b h).1, (HO3a.out.cyc.lt b h).2⟩)
      have HR1w := Lib.hid (show ∀ b, (Value.slice d2.ea d2.es.length d2.ec).ownBlock = some b → w11.heap.size ≤ b from fun b h => (HE2.out.row.lt b h).1)
      have HZ2 := Lib.hid (show ∀ b, Z b → w2.heap.size ≤ b from fun b hb => by
        rw [hZ] at hb
        have hz := HZ.out
        rcases hb with h | (h | h) | (h | h)
        · have := HLW.out b h; omega
        · exact (HC1.out b h).1
        · have := (HC3.out b h).1; omega
        · have := (HRD1.out.2 b h).1; omega
        · have := HR1w.out b h; omega)
      have HZB := Lib.hid (show ¬ Z bx ∧ ¬ Z by' from by
        have key : ∀ g d, Box wr g d → ¬ Z g := by
          intro g d hb hz
          rw [hZ] at hz
          rcases hz with ⟨r, hr, h⟩ | (h | h) | (h | h)
          · obtain ⟨j, hj, rfl⟩ := List.mem_iff_getElem.1 hr
            obtain ⟨xs, hx⟩ := HFW.out.own j hj
            exact own_ne_row hx hb (by decide) h
          · exact own_ne_row HP1.out.cyc hb (by decide) h
          · exact own_ne_row HP3.out.cyc hb (by decide) h
          · exact own_ne_row HE1.out.row hb (by decide) h
          · exact own_ne_row HE2.out.row hb (by decide) h
        exact ⟨key _ _ HBXr.out, key _ _ HBYr.out⟩)
      have HBS := Lib.hid (fun V (h : Only Z wr V) => (show Bs w c e V ∧ Box V bx d1 ∧ Box V by' d2 from
        ⟨HBV.out.only h (fun k hk => by have h1 := HZ2.out k hk; have h2 := HS2.out.ge; omega), h.row HBXr.out HZB.out.1, h.row HBYr.out HZB.out.2⟩))
      have HK31 := Lib.hid (fun V (h : Below wr.heap.size wr V) => show Calls Try.prog 31 #[.slice av N2x cv] V fun e w' => e = .returned (.bool true) ∧ Only (ownS LS2) V w' from by
        have hx := apart_any w2.heap.size LS2 av cv V (by rw [HL2.out]; have := HNB.out; omega) (fun r hr => HMX.out r hr) (HSV.out.kept h) (HFW.out.kept h) (fun y hy hb => by
          obtain ⟨r, hr, e⟩ := hb
          obtain ⟨j, hj, rfl⟩ := List.mem_iff_getElem.1 hr
          obtain ⟨xs, hx⟩ := HFW.out.own j hj
          have h1 := owns_apart hx HOV.out (by decide)
          rcases h1 with h1 | h1
          · rw [h1] at e; cases e
          · exact h1 (e.trans (by rw [hy]; rfl))) (Nat.le_trans (by have := HZ.out; omega) h.size)
        rw [HL2.out] at hx
        exact hx)
      have HOFC := Lib.hid (show offB (.slice ca cn cc) (.slice cx cy cz) from fun b h1 h2 => by have := (HC1.out b h1).2; have := (HC3.out b h2).1; have := HZ.out; omega)
      have HOFE := Lib.hid (show offB (.slice d1.ea d1.es.length d1.ec) (.slice d2.ea d2.es.length d2.ec) from fun b h1 h2 => by have := (HRD1.out.2 b h1).2; have := HR1w.out b h2; have := HZ.out; omega)
      have e12 := HLEN.out.1
      have HK32 := Lib.hid (fun V (h : Only (ownS LS2) wr V) => show Calls Try.prog 32 #[.slice ca cn cc, .slice cx cy cz] V fun e w' => e = .returned (.bool true) ∧ Only (fun x => (Value.slice ca cn cc).ownBlock = some x ∨ (Value.slice cx cy cz).ownBlock = some x) V w' from by
        have off : ∀ {B n : Nat} {v : Value} {xs : List Value}, wr.ownsRow B 22 1 v n xs → V.ownsRow B 22 1 v n xs := fun ho => h.owns ho (fun k hk hs => by
          obtain ⟨r, hr, e⟩ := hs
          obtain ⟨j, hj, rfl⟩ := List.mem_iff_getElem.1 hr
          obtain ⟨xs, hx⟩ := HFW.out.own j hj
          rcases owns_apart hx ho (by decide) with h1 | h1
          · rw [h1] at e; cases e
          · exact h1 (e.trans hk.symm))
        have hyn : cy = cn := by have := HN1.out; omega
        have q1 := owns_base (off HP1.out.cyc) (Nat.le_refl w2.heap.size)
        have q3 := owns_base (off HP3.out.cyc) (show w2.heap.size ≤ w4.heap.size by have := HZ.out; omega)
        have hx := lists_any w2.heap.size cn (r1.map r3) (r3'.map r3) ca cx cc cz V (by have := HN1.out; omega) q1 (by have h := q3; simp only [r3] at h; rw [hyn] at h; exact h) (by have h := HOFC.out; rw [hyn] at h; exact h) (by have h1 := HZ.out; have h2 := h.size; omega)
        rw [hyn]
        exact hx)
      have HK33 := Lib.hid (fun V (h : Only (fun x => ownS LS2 x ∨ ((Value.slice ca cn cc).ownBlock = some x ∨ (Value.slice cx cy cz).ownBlock = some x)) wr V) => show Calls Try.prog 33 #[.slice d1.ea d1.es.length d1.ec, .slice d2.ea d1.es.length d2.ec] V fun e w' => e = .returned (.bool true) ∧ Only (fun x => (Value.slice d1.ea d1.es.length d1.ec).ownBlock = some x ∨ (Value.slice d2.ea d2.es.length d2.ec).ownBlock = some x) V w' from by
        have off : ∀ {B n : Nat} {v : Value} {xs : List Value}, wr.ownsRow B 48 5 v n xs → V.ownsRow B 48 5 v n xs := fun ho => h.owns ho (fun k hk hs => by
          rcases hs with ⟨r, hr, e⟩ | hs | hs
          · obtain ⟨j, hj, rfl⟩ := List.mem_iff_getElem.1 hr
            obtain ⟨xs, hx⟩ := HFW.out.own j hj
            rcases owns_apart hx ho (by decide) with h1 | h1
            · rw [h1] at e; cases e
            · exact h1 (e.trans hk.symm)
          · rcases owns_apart HP1.out.cyc ho (by decide) with h1 | h1
            · have hs' : (r3 (ca, cn, cc)).ownBlock = some k := hs
              rw [h1] at hs'; cases hs'
            · exact h1 ((show (r3 (ca, cn, cc)).ownBlock = some k from hs).trans hk.symm)
          · rcases owns_apart HP3.out.cyc ho (by decide) with h1 | h1
            · have hs' : (r3 (cx, cy, cz)).ownBlock = some k := hs
              rw [h1] at hs'; cases hs'
            · exact h1 ((show (r3 (cx, cy, cz)).ownBlock = some k from hs).trans hk.symm))
        have q2 := owns_base (off HE2.out.row) (show w9.heap.size ≤ w11.heap.size by have := HZ.out; omega)
        have hof := HOFE.out
        rw [← HLEN.out.1] at q2 hof ⊢
        exact entries_any w9.heap.size d1.es.length _ _ d1.ea d2.ea d1.ec d2.ec V (by have := HD13.out; omega) (off HE1.out.row) q2 hof (by have h1 := HZ.out; have h2 := h.size; have h3 := lt_row HBXr.out; have h4 := HBYX.out.2; omega))
      have HCEL := Lib.hid (fun V (h : Only Z wr V) => show V.cell? ⟨w.heap.size, 0, none⟩ = some (.int .i64 c.num) ∧ V.cell? ⟨w.heap.size, 1, none⟩ = some (.int .i64 c.kind) ∧ V.cell? ⟨w.heap.size, 2, none⟩ = some (.int .i64 c.by') ∧ V.cell? ⟨w.heap.size, 3, none⟩ = some (.int .i64 c.dl) ∧ V.cell? ⟨w.heap.size, 4, none⟩ = some (.int .i64 c.to') ∧ V.cell? ⟨w.heap.size, 5, none⟩ = some (.int .i64 c.want) ∧ V.cell? ⟨w.heap.size, 6, none⟩ = some (.int .u64 c.price) ∧ V.cell? ⟨w.heap.size, 7, none⟩ = some (.int .u64 c.reserve) ∧ V.cell? ⟨w.heap.size, 8, none⟩ = some (.int .u64 c.step) ∧ V.cell? ⟨w.heap.size, 9, none⟩ = some (.int .i64 c.of') ∧ V.cell? ⟨w.heap.size, 10, none⟩ = some (.slice c.ea c.es.length c.ec) ∧ V.cell? ⟨bx, 10, none⟩ = some (.slice d1.ea d1.es.length d1.ec) ∧ V.cell? ⟨by', 10, none⟩ = some (.slice d2.ea d1.es.length d2.ec) from by
        obtain ⟨hb, hx, hy⟩ := HBS.out V h
        obtain ⟨p0, p1, p2, p3, p4, p5, p6, p7, p8, p9, p10⟩ := hb.bx.cells
        have z1 := hx.cells.2.2.2.2.2.2.2.2.2.2
        have z3 := hy.cells.2.2.2.2.2.2.2.2.2.2
        rw [← HLEN.out.1] at z3
        exact ⟨p0, p1, p2, p3, p4, p5, p6, p7, p8, p9, p10, z1, z3⟩)
      have HZa := Lib.hid (show ∀ k, ownS LS2 k → Z k from fun k h => by rw [hZ]; exact .inl h)
      have HZb := Lib.hid (show ∀ k, (ownS LS2 k ∨ ((Value.slice ca cn cc).ownBlock = some k ∨ (Value.slice cx cy cz).ownBlock = some k)) → Z k from fun k h => by rw [hZ]; exact h.imp id .inl)
      have HZc := Lib.hid (show ∀ k, ((Value.slice d1.ea d1.es.length d1.ec).ownBlock = some k ∨ (Value.slice d2.ea d2.es.length d2.ec).ownBlock = some k) → Z k from fun k h => by rw [hZ]; exact .inr (.inr h))
      have HNW := Lib.hid (show ∀ k, (Value.slice aw gn cw).ownBlock = some k → ¬ Z k from fun k hk hz => by
        have h1 := HPW.out.lt k hk
        have h2 := (HOW.out.lt k hk).2
        have hh := HZ.out
        rw [hZ] at hz
        rcases hz with h | (h | h) | (h | h)
        · rw [hLS2] at h
          rcases ownS_append.1 h with h | h
          · have := HLW2.out k h; omega
          · have := HWLD.out k h; omega
        · have := (HC1.out k h).2; omega
        · rcases owns_apart HPW.out HP3.out.cyc (by decide) with q | q
          · rw [q] at hk; cases hk
          · exact q (hk.trans (show (r3 (cx, cy, cz)).ownBlock = some k from h).symm)
        · have := (HRD1.out.2 k h).1; omega
        · have := HR1w.out k h; omega)
      have HD0 := Lib.hid (show Only Z wr wr.drew from Only.of_below (below_drawn (Below.refl wr.heap.size wr) _))
      have HBD := Lib.hid (show Below wr.heap.size wr wr.drew from below_drawn (Below.refl wr.heap.size wr) _)
      have HI6 := Lib.hid (fun V (h : Only Z wr V) => (HBS.out V h).1.bel)
      have HWN := Lib.hid (fun V (h : Only Z wr V) => h.owns HPW.out HNW.out)
      have HGL := Lib.hid (show gn = L.length from HN1.out.1)
      obtain ⟨p0, p1, p2, p3, p4, p5, p6, p7, p8, p9, p10, z1, z3⟩ := HCEL.out wr (Only.refl _ _)
      have t5 : decide ((d1.es.length : Int) < (d1.es.length : Int)) = false := by simp
      have t5n : decide (d1.es.length < d1.es.length) = false := by simp
      have q0 : ((d1.es.length : Int) != (d1.es.length : Int)) = false := by simp
      have hcase : ((joinV c e == 0) = true ∧ ((d1.es.length : Int) != (c.es.length : Int) + 1) = false) ∨ (joinV c e == 0) = false := by
        by_cases hj : joinV c e = 0
        · refine .inl ⟨by rw [beq_iff_eq]; exact hj, ?_⟩
          have := HLEN.out.2.1.1 hj
          rw [bne_eq_false_iff_eq]
          omega
        · exact .inr (by rw [beq_eq_false_iff_ne]; exact hj)
      have w1 : IntKind.i64.wrap ((c.es.length : Int) + 1) = (c.es.length : Int) + 1 := by rw [IntKind.wrap_i64]; have := HLE.out; omega
      obtain ⟨jv, hjv⟩ : ∃ jv, jv = joinV c e := ⟨_, rfl⟩
      rw [← hjv] at hcase ⊢
      clear hjv hl2 hN2 hLS2 hZ hsv hG hbe e12 hi hlt
      have HCA := Lib.hid hcase
      clear hcase HLEN HG HFW HMX HSV HOV HE1 HE2 HBXr HBYr HOFC HOFE
      rcases HCA.out with ⟨j0, l0⟩ | j0
      all_goals
        clear HCA
        go_upto_region 20 with fail
        go_region_held3 (fun V => V.cell? ⟨w.heap.size, 0, none⟩ = some (.int .i64 c.num) ∧ V.cell? ⟨w.heap.size, 1, none⟩ = some (.int .i64 c.kind) ∧ V.cell? ⟨w.heap.size, 2, none⟩ = some (.int .i64 c.by') ∧ V.cell? ⟨w.heap.size, 3, none⟩ = some (.int .i64 c.dl) ∧ V.cell? ⟨w.heap.size, 4, none⟩ = some (.int .i64 c.to') ∧ V.cell? ⟨w.heap.size, 5, none⟩ = some (.int .i64 c.want) ∧ V.cell? ⟨w.heap.size, 6, none⟩ = some (.int .u64 c.price) ∧ V.cell? ⟨w.heap.size, 7, none⟩ = some (.int .u64 c.reserve) ∧ V.cell? ⟨w.heap.size, 8, none⟩ = some (.int .u64 c.step) ∧ V.cell? ⟨w.heap.size, 9, none⟩ = some (.int .i64 c.of') ∧ V.cell? ⟨w.heap.size, 10, none⟩ = some (.slice c.ea c.es.length c.ec) ∧ V.cell? ⟨bx, 10, none⟩ = some (.slice d1.ea d1.es.length d1.ec) ∧ V.cell? ⟨by', 10, none⟩ = some (.slice d2.ea d1.es.length d2.ec)) (first | assumption | exact HCEL.out _ HD0.out)
          ((first
            | (go_at_call 31
               (with_reducible refine (HK31.out _ HBD.out).mono ?_)
               rintro e31 v1 ⟨rfl, ho1⟩
               have hP1 : Only (ownS LS2) wr v1 := (Only.of_below (S := ownS LS2) HBD.out).trans ho1 (fun b hb => .inl hb)
               have hC1 := HCEL.out v1 (hP1.mono HZa.out))
            | (go_at_call 32
               (with_reducible refine (HK32.out _ hP1).mono ?_)
               rintro e32 v2 ⟨rfl, ho2⟩
               have hP2 := (hP1.mono (T := fun x => ownS LS2 x ∨ ((Value.slice ca cn cc).ownBlock = some x ∨ (Value.slice cx cy cz).ownBlock = some x)) (fun k h => .inl h)).trans ho2 (fun b hb => .inl (.inr hb))
               have hC2 := HCEL.out v2 (hP2.mono HZb.out))
            | (go_at_call 33
               (with_reducible refine (HK33.out _ hP2).mono ?_)
               rintro e33 v3 ⟨rfl, ho3⟩
               have hP3 : Only Z wr v3 := (hP2.mono HZb.out).trans ho3 (fun b hb => .inl (HZc.out b hb))
               have hC3 := HCEL.out v3 hP3)
            | (go_at_call 28
               (with_reducible refine (HK28.out _ (HI6.out _ hP3) HLE.out).mono ?_)
               rintro e28 v4 ⟨vg1, G1, rfl, hgot1, hrow1, hb4⟩
               have hP4 : Only Z wr v4 := hP3.trans (Only.of_below (S := fun _ => False) hb4) (fun b hb => absurd hb id)
               have hC4 := HCEL.out v4 hP4
               obtain ⟨ag1, kg1, hvg1, _, _, _⟩ := Go.K.owns_slice hrow1
               subst hvg1)
            | (go_at_call 28
               (with_reducible refine (HK28.out _ (HI6.out _ hP4) HLE.out).mono ?_)
               rintro e28 v5 ⟨vg2, G2, rfl, hgot2, hrow2, hb5⟩
               have hP5 : Only Z wr v5 := hP4.trans (Only.of_below (S := fun _ => False) hb5) (fun b hb => absurd hb id)
               have hC5 := HCEL.out v5 hP5
               rw [← ends_same (a := c.es) (b := c.es) rfl hgot1 hgot2] at hrow2
               obtain ⟨ag2, kg2, hvg2, _, _, _⟩ := Go.K.owns_slice hrow2
               subst hvg2)
            | (go_at_call 34
               have K34 := gifts_any v3.heap.size (endG c.es (c.es.map Ent.item) G1 c.es.length).length _ _ ag1 ag2 kg1 kg2 v5 (by have h1 := endG_len c.es (c.es.map Ent.item) G1 c.es.length; have h2 := HLE.out; omega) (owns_below (B := 0) hrow1 hb5) (owns_base hrow2 hb4.size) (show offB _ _ from fun b h1 h2 => by have h3 := (hrow1.lt b h1).2; have h4 := (hrow2.lt b h2).1; omega) (Nat.le_trans hb4.size hb5.size)
               (with_reducible refine K34.mono ?_)
               rintro e34 v6 ⟨rfl, ho6⟩
               have hP6 : Only Z wr v6 := hP5.trans ho6 (fun b hb => by
                 refine .inr ?_
                 have h0 := hP3.size
                 rcases hb with h | h
                 · have := (hrow1.lt b h).1; omega
                 · have := (hrow2.lt b h).1; have := hb4.size; omega)
               have hC6 := HCEL.out v6 hP6)))
        all_goals
          have HP6 := Lib.hid hP6
          clear hP1 hP2 hP3 hP4 hP5 hP6 hC1 hC2 hC3 hC4 hC5 hgot1 hgot2 hrow1 hrow2 hb4 hb5 ho1 ho2 ho3 ho6
          have K12 := Lib.hid (clear_own (is := is) (ic := ic) (wc := wc) (by have := HIL.out; omega) (HI.out.kept (HI6.out v6 HP6.out)).sl HI.out.wf (HW.out.kept (HI6.out v6 HP6.out)) rfl)
          try clear K34
          go_wp2_with fail
          refine K12.out.mono ?_
          rintro r0 v7 ⟨g4, c4, r4, L4, N4, z4, rfl, hb7, hv7, ho7⟩
          have ho7 := clo_same (B1 := 0) (W1 := v7) (g1 := g4) (c1 := c4) (r1 := r4) HV1.out hv7 ho7
          obtain ⟨ax, nx, kx⟩ := g4
          have e4 : nx = L.length := ho7.gl
          subst e4
          have slI : ∀ {V : World} {B : Nat} {a : Option Addr} {n k : Nat} {xs : List Value}, V.ownsRow B 3 1 (.slice a n k) n xs → Sl V a xs := by
            intro V B a n k xs h
            obtain ⟨a', c', hv, _, hs, _⟩ := Go.K.owns_slice h
            injection hv with h1 h2 h3
            rw [h1]; exact hs
          have K21 := same_true ax aw kx cw L v7 (by have := HN1.out; omega) (slI ho7.got) ((slI (HWN.out v6 HP6.out)).kept hb7)
          have K21 := Lib.hid (show Calls Try.prog 21 #[.slice ax L.length kx, .slice aw gn cw] v7 fun e w' => e = .returned (.bool true) ∧ ∃ m, w' = v7.drewN m from by rw [HGL.out]; exact K21)
          have HBF := Lib.hid (show Below w.heap.size w v7 from (HI6.out v6 HP6.out).trans (hb7.mono (HI6.out v6 HP6.out).size))
          clear hb7 hv7 ho7 K12 slI
          unfold r3
          go_wp2_with fail
          refine K21.out.mono ?_
          rintro r0 v8 ⟨rfl, m, rfl⟩
          go_wp2
          go_ret
          exact ⟨rfl, HBF.out.trans ((Qt.drewN v7 m).below _)⟩
theorem own : ownKnob Try.prog.godebug = none := by kernel_rfl
theorem laidOut : laidOutB Try.prog = true := by kernel_rfl
set_option maxRecDepth 100000 in
theorem lifted (os : Os) (started : os.Started) (H : Type) (enc : TypeId × Value → H) :
    ReturnsInHanded {} Try.checked os 8 .any (Rows.barterOwnSpec.pre6 enc Try.prog Try.f8 Rows.barterOwnRow.domain false) (Rows.barterOwnSpec.post enc Try.prog Try.f8 false true false false) := by
  refine returnsInHanded_of_change_sized (C := Try.checked) own started (by kernel_rfl) Try.func8
    (ChangeSpec.witness6 (enc := enc) (C := Try.checked) false ⟨#[], #[.slice none 0 0, .slice none 0 0, .slice none 0 0, .agg #[.int .i64 0, .int .i64 0, .int .i64 0, .int .i64 0, .int .i64 0, .int .i64 0, .int .u64 0, .int .u64 0, .int .u64 0, .int .i64 0, .slice none 0 0], .agg #[.int .i64 0, .int .i64 0, .int .u64 0, .int .u64 0, .slice none 0 0]], []⟩ 8 (by kernel_rfl) (by kernel_rfl) (by kernel_rfl) (by kernel_rfl)) ?_
  intro W base args ds gs before hval0 hW hcnd hsz0 _
  have hsz : (DataW.weightsEach Try.prog (Try.f8.params.toList ++ Rows.barterOwnSpec.plain.varTypes Try.prog) (ds ++ gs)).all (· ≤ reachBytes) = true := hsz0
  clear hsz0
  have hval : ∀ (j : Nat) t v, Try.f8.params[j]? = some t → args[j]? = some v → Value.okWide Try.prog W .any base t v := hval0
  have hW' := hW
  obtain ⟨p, q, hA0, hV, rfl, hfz, hnd⟩ := hW
  have hA : DataW.TrodAll enc Try.prog W 0 (fun _ => true) true Try.f8.params.toList args.toList ds p := hA0
  rw [Try.params8] at hA hval hsz
  obtain ⟨v0, vs0, d0, ds0, p0, q0, hargs, rfl, rfl, h0, r0⟩ := trodAll_cons hA
  obtain ⟨v1, vs1, d1, ds1, p1, q1, rfl, rfl, rfl, h1, r1⟩ := trodAll_cons r0
  obtain ⟨v2, vs2, d2, ds2, p2, q2, rfl, rfl, rfl, h2, r2⟩ := trodAll_cons r1
  obtain ⟨v3, vs3, d3, ds3, p3, q3, rfl, rfl, rfl, h3, r3⟩ := trodAll_cons r2
  obtain ⟨v4, vs4, d4, ds4, p4, q4, rfl, rfl, rfl, h4, r4⟩ := trodAll_cons r3
  obtain ⟨rfl, rfl, rfl⟩ := trodAll_nil r4
  obtain rfl : args = #[v0, v1, v2, v3, v4] := by cases args; simp_all
  obtain ⟨rfl, rfl⟩ := trodVars_none hV
  have k0 := h0
  have lt0 : ∀ x ∈ p0, x.block < W.heap.size := by obtain ⟨m, hm⟩ := k0; exact DataW.trod_lt m _ _ _ hm
  obtain ⟨c0, rfl, n0⟩ := open_wl (hval 0 22 v0 rfl rfl) h0 hsz (j := 0) rfl rfl
  have k1 := h1
  have lt1 : ∀ x ∈ p1, x.block < W.heap.size := by obtain ⟨m, hm⟩ := k1; exact DataW.trod_lt m _ _ _ hm
  obtain ⟨a1, cap1, l1, rfl, n1, m1, z1⟩ := open_wls (hval 1 23 v1 rfl rfl) h1 hsz (j := 1) rfl rfl
  have k2 := h2
  have lt2 : ∀ x ∈ p2, x.block < W.heap.size := by obtain ⟨m, hm⟩ := k2; exact DataW.trod_lt m _ _ _ hm
  obtain ⟨c2, rfl, n2⟩ := open_wl (hval 2 22 v2 rfl rfl) h2 hsz (j := 2) rfl rfl
  have k3 := h3
  have lt3 : ∀ x ∈ p3, x.block < W.heap.size := by obtain ⟨m, hm⟩ := k3; exact DataW.trod_lt m _ _ _ hm
  obtain ⟨c3, rfl, n3⟩ := open_con (hval 3 45 v3 rfl rfl) h3 hsz (j := 3) rfl rfl
  have k4 := h4
  have lt4 : ∀ x ∈ p4, x.block < W.heap.size := by obtain ⟨m, hm⟩ := k4; exact DataW.trod_lt m _ _ _ hm
  obtain ⟨c4, rfl, n4⟩ := open_ent (hval 4 48 v4 rfl rfl) h4 hsz (j := 4) rfl rfl
  clear hA0 hval0
  refine (walk c0 a1 cap1 l1 c2 c3 c4 W n0 n1 m1 z1 n2 n3 n4).mono fun e W' ⟨he, bel⟩ => ?_
  subst he
  exact ⟨_, rfl, _, _, _, [], _, [], hW', trodAll_mk1 (shut_bool Try.underlying4 _), (trodAll_cons_mk (Below.trod laidOut (by kernel_rfl) (of_decide_eq_true (by kernel_rfl)) k0 bel lt0) (trodAll_cons_mk (Below.trod laidOut (by kernel_rfl) (of_decide_eq_true (by kernel_rfl)) k1 bel lt1) (trodAll_cons_mk (Below.trod laidOut (by kernel_rfl) (of_decide_eq_true (by kernel_rfl)) k2 bel lt2) (trodAll_cons_mk (Below.trod laidOut (by kernel_rfl) (of_decide_eq_true (by kernel_rfl)) k3 bel lt3) (trodAll_cons_mk (Below.trod laidOut (by kernel_rfl) (of_decide_eq_true (by kernel_rfl)) k4 bel lt4) trodAll_mk0))))), rfl, bel.frame _, fun h => by cases h⟩
theorem over : Rows.barterOwnRow.holds Try.pinned (OpenSpec.ofChange Rows.barterOwnSpec) :=
  OpenClaim.holds_of_wide 8 Try.f8 rfl rfl rfl rfl rfl rfl rfl ⟨rfl, rfl, rfl, rfl, rfl⟩ rfl rfl rfl rfl rfl (by kernel_rfl) Try.func8 (by kernel_rfl)
    (of_decide_eq_true (by kernel_rfl)) (by unfold Func.isWrapper; first | (rw [if_pos (by decide +kernel)]; kernel_rfl) | (rw [if_neg (by decide +kernel)]; exact ⟨rfl, rfl⟩))
    (fun os started H enc _ => lifted os started H enc)
theorem proved : Rows.BarterOwnSaid := over
#print axioms proved
end Go.Proofs.Ytpikmcapnmdmbaa.lawBarterOwn
