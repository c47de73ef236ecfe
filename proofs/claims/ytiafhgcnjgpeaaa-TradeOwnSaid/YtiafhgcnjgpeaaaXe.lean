/-
  Layer 20: the mirror of a contract: the program's and the document's.
-/
import Derived.Test.YtiafhgcnjgpeaaaXd
import Derived.Test.YtiafhgcnjgpeaaaWd
import Derived.Deep.RegionHeld3
namespace Go.Proofs.Ytiafhgcnjgpeaaa
open Go.RowKit Go.K
set_option linter.unusedVariables false
set_option linter.unusedSimpArgs false

/-- A contract in new memory, its entries without wishes. -/
structure NewC (B : Nat) (W : World) (m : Con) : Prop where
  row : W.ownsRow B 44 5 (.slice m.ea m.es.length m.ec) m.es.length (eFlat m.es)
  nil : m.ea = none → m.es.length = 0 ∧ m.ec = 0
  ents : ∀ e ∈ m.es, e.wa = none ∧ e.wc = 0 ∧ e.ws = []
  mx : m.es.length ≤ 1
  full : m.ec = m.es.length
theorem owns_le {W : World} {B : Nat} {e : TypeId} {s n cap : Nat} {ad : Option Addr} {xs : List Value} (h : W.ownsRow B e s (.slice ad n cap) n xs) : n ≤ cap := by
  rcases h.2 with ⟨h1, h2⟩ | ⟨g, cap', cur, hv, _, _, hle, _⟩
  · omega
  · injection hv with _ _ h3; omega
theorem NewC.ok {B : Nat} {W : World} {m : Con} (h : NewC B W m) : ConOk W m := by
  refine ⟨?_, fun e he => ?_, owns_le h.row, Nat.le_trans h.mx (by decide), h.nil⟩
  · obtain ⟨ad, cap, hv, _, hs, _⟩ := owns_slice h.row
    injection hv with h1
    rw [h1]; exact hs
  · obtain ⟨h1, h2, h3⟩ := h.ents e he
    refine ⟨by rw [h3]; exact Sl.nil _ _, by rw [h3]; exact Nat.zero_le _, by rw [h3]; exact Nat.zero_le _, fun _ => ⟨by rw [h3]; rfl, h2⟩⟩
theorem NewC.kept {B : Nat} {W W' : World} {m : Con} (h : NewC B W m) (hb : Below W.heap.size W W') : NewC B W' m := ⟨owns_below (B := 0) h.row hb, h.nil, h.ents, h.mx, h.full⟩
theorem NewC.only {B : Nat} {S : Nat → Prop} {W W' : World} {m : Con} (h : NewC B W m) (ho : Only S W W') (hS : ∀ k, (Value.slice m.ea m.es.length m.ec).ownBlock = some k → ¬ S k) : NewC B W' m := ⟨ho.owns h.row hS, h.nil, h.ents, h.mx, h.full⟩
def conZ : Con := ⟨0, 0, 0, 0, 0, 0, 0, 0, 0, 0, none, 0, []⟩
theorem newC_conZ (B : Nat) (W : World) : NewC B W conZ := ⟨World.ownsRow_nil _ _ _ _, fun _ => ⟨rfl, rfl⟩, (fun e he => by cases he), by decide, rfl⟩
def mirC (c : Con) (x : Ent) (g : Nat) : Con := { c with by' := c.to, to := c.by', want := x.item, price := x.coins, ea := some ⟨g, 0, none⟩, ec := 1, es := [⟨c.to, c.want, c.price, 0, none, 0, []⟩] }
/-- What the mirror says. -/
def mirD (c : Con) : (Int × Int × Int × Int × Int) × (Int × Int × Int × Int × Int) × List (Int × Int × Int × Int × List Int) :=
  if termsV c = 0 then match c.es with
    | x :: _ => ((c.num, c.kind, c.to, c.dl, c.by'), (x.item, x.coins, c.reserve, c.step, c.of'), [(c.to, c.want, c.price, 0, [])])
    | [] => conZ.d
  else conZ.d
theorem terms_one {c : Con} (h : termsV c = 0) : ∃ x, c.es = [x] := by
  by_cases h1 : c.kind = 1 ∧ c.to = c.by'
  · unfold termsV at h; rw [if_pos h1] at h; exact absurd h (by decide)
  · by_cases h2 : c.kind ≠ 1 ∨ c.reserve ≠ 0 ∨ c.step ≠ 0 ∨ c.of' ≠ 0 ∨ itemP c.want = false ∨ c.price > maxS ∨ (c.want = 0 ∧ c.price = 0)
    · rw [termsV_a c h1 h2] at h; exact absurd h (by decide)
    · rw [termsV_b c h1 h2] at h
      by_cases h3 : c.es.length = 1
      · exact List.length_eq_one_iff.1 h3
      · rw [termsE_n _ _ _ h3] at h; exact absurd h (by decide)
theorem newC_mir {B : Nat} {W : World} {c : Con} {x : Ent} {g : Nat} (h : W.heap[g]? = some (.cells #[.int .i64 c.to, .int .i64 c.want, .int .u64 c.price, .int .u64 0, .slice none 0 0] 44)) (hB : B ≤ g) : NewC B W (mirC c x g) :=
  ⟨⟨rfl, .inr ⟨g, 1, _, rfl, hB, h, Nat.le_refl _, by unfold maxLen; decide, rfl, rfl⟩⟩, (fun h => by cases h), (fun e he => by rw [mirC, List.mem_singleton] at he; subst he; exact ⟨rfl, rfl, rfl⟩), Nat.le_refl _, rfl⟩
set_option maxRecDepth 100000 in
set_option maxHeartbeats 4000000 in
theorem mirror_any (c : Con) (w : World) (hc : ConOk w c) :
    Calls Try.prog 11 #[c.agg] w fun r w' => ∃ m : Con, r = .returned (.tuple #[m.agg, .int .i64 (termsV c)]) ∧ m.d = mirD c ∧ NewC w.heap.size w' m ∧ Below w.heap.size w w' := by
  have HT := Lib.hid (fun V (h : Below w.heap.size w V) => terms_any c V (hc.kept h))
  have HC := Lib.hid hc
  clear hc
  obtain ⟨n, k, b, d, t, wn, p, r, s, o, ea, ec, es⟩ := c
  have HO := Lib.hid (fun h => terms_one (c := ⟨n, k, b, d, t, wn, p, r, s, o, ea, ec, es⟩) h)
  unfold Con.agg at *
  simp only at *
  go_enter Try.func11, Try.ntmps11
  have HB := Lib.hid (((Below.refl w.heap.size w).alloc (Nat.le_refl _) (.cells #[.int .i64 n, .int .i64 k, .int .i64 b, .int .i64 d, .int .i64 t, .int .i64 wn, .int .u64 p, .int .u64 r, .int .u64 s, .int .i64 o, .slice ea es.length ec] 25)).alloc (by simp) (.cells #[.int .i64 0, .int .i64 0, .int .i64 0, .int .i64 0, .int .i64 0, .int .i64 0, .int .u64 0, .int .u64 0, .int .u64 0, .int .i64 0, .slice none 0 0] 25))
  go_wp2_with fail
  refine (HT.out _ HB.out).mono ?_
  rintro e w1 ⟨rfl, hb1⟩
  have q1 : w1.heap[w.heap.size]? = some (.cells #[.int .i64 n, .int .i64 k, .int .i64 b, .int .i64 d, .int .i64 t, .int .i64 wn, .int .u64 p, .int .u64 r, .int .u64 s, .int .i64 o, .slice ea es.length ec] 25) := row_kept (alloc_old (alloc_at rfl)) hb1
  have q2 : w1.heap[w.heap.size + 1]? = some (.cells #[.int .i64 0, .int .i64 0, .int .i64 0, .int .i64 0, .int .i64 0, .int .i64 0, .int .u64 0, .int .u64 0, .int .u64 0, .int .i64 0, .slice none 0 0] 25) := row_kept (alloc_at (by simp)) hb1
  have HB1 := Lib.hid (HB.out.trans (hb1.mono (by simp; omega)))
  clear hb1
  have HV := Lib.hid (rfl : mirD ⟨n, k, b, d, t, wn, p, r, s, o, ea, ec, es⟩ = mirD ⟨n, k, b, d, t, wn, p, r, s, o, ea, ec, es⟩)
  by_cases h0 : termsV ⟨n, k, b, d, t, wn, p, r, s, o, ea, ec, es⟩ = 0
  case neg =>
    have t0 : (termsV ⟨n, k, b, d, t, wn, p, r, s, o, ea, ec, es⟩ != 0) = true := by simpa using h0
    have HM := Lib.hid (show mirD ⟨n, k, b, d, t, wn, p, r, s, o, ea, ec, es⟩ = conZ.d from if_neg h0)
    clear h0
    go_wp2_with (refine wpList_store_lit 25 (w.heap.size + 1) 0 #[.int .i64 0, .int .i64 0, .int .i64 0, .int .i64 0, .int .i64 0, .int .i64 0, .int .u64 0, .int .u64 0, .int .u64 0, .int .i64 0, .slice none 0 0] (.agg #[.int .i64 0, .int .i64 0, .int .i64 0, .int .i64 0, .int .i64 0, .int .i64 0, .int .u64 0, .int .u64 0, .int .u64 0, .int .i64 0, .slice none 0 0]) q2 sz25 (Nat.le_of_ble_eq_true rfl) rfl rfl ?_ ?_ ?_; exact rfl; exact rfl; intro w2 hp2)
    have HB2 := hp2.below HB1.out HB1.out.size (by omega)
    exact bodyPost_ret (results_row_tmp Try.results11 _ _ (w.heap.size + 1) 25 _ _ _ rfl hp2.at' Try.underlying25 rfl sz25) rfl ⟨conZ, rfl, HM.out.symm, newC_conZ _ _, HB2⟩
  case pos =>
    have t0 : (termsV ⟨n, k, b, d, t, wn, p, r, s, o, ea, ec, es⟩ != 0) = false := by simpa using h0
    obtain ⟨x, hx⟩ := HO.out h0
    try simp only at hx
    subst hx
    have HM := Lib.hid (show mirD ⟨n, k, b, d, t, wn, p, r, s, o, ea, ec, [x]⟩ = ((n, k, t, d, b), (x.item, x.coins, r, s, o), [(t, wn, p, 0, [])]) from if_pos h0)
    have H0 := Lib.hid h0
    clear h0
    obtain ⟨ob, oo, hea, f0, f1, f2, f3, f4⟩ := (HC.out.kept HB1.out).one rfl
    simp only at hea
    subst hea
    obtain ⟨xa, xi, xc, xp, xw, xk, xs⟩ := x
    try simp only at f0 f1 f2 f3 f4 HM
    try simp only [List.length_cons, List.length_nil, Nat.zero_add] at *
    have HL1 := Lib.hid (show w.heap.size + 2 ≤ w1.heap.size from lt_row q2)
    have k10 : w1.cell? ⟨w.heap.size, 10, none⟩ = some (.slice (some ⟨ob, oo, none⟩) 1 ec) := by rw [cell_of_row _ _ _ _ _ _ q1]; rfl
    obtain ⟨e0, e1, e2, e3, e4, e5, e6, e7, e8, e9, e10⟩ := cells11 (alloc_old (p := (.cells #[.int .i64 xa, .int .i64 xi, .int .u64 xc, .int .u64 xp, .slice xw xs.length xk] 44)) q1)
    have a2 := alloc_old (p := (.cells #[.int .i64 t, .int .i64 wn, .int .u64 p, .int .u64 0, .slice none 0 0] 44)) (alloc_old (p := (.cells #[.int .i64 xa, .int .i64 xi, .int .u64 xc, .int .u64 xp, .slice xw xs.length xk] 44)) q1)
    have z2 := alloc_old (p := (.cells #[.int .i64 t, .int .i64 wn, .int .u64 p, .int .u64 0, .slice none 0 0] 44)) (alloc_old (p := (.cells #[.int .i64 xa, .int .i64 xi, .int .u64 xc, .int .u64 xp, .slice xw xs.length xk] 44)) q2)
    have g2 := alloc_old (p := (.cells #[.int .i64 t, .int .i64 wn, .int .u64 p, .int .u64 0, .slice none 0 0] 44)) (alloc_at (w := w1) (o := (.cells #[.int .i64 xa, .int .i64 xi, .int .u64 xc, .int .u64 xp, .slice xw xs.length xk] 44)) rfl)
    have m2 : ((w1.alloc (.cells #[.int .i64 xa, .int .i64 xi, .int .u64 xc, .int .u64 xp, .slice xw xs.length xk] 44)).alloc (.cells #[.int .i64 t, .int .i64 wn, .int .u64 p, .int .u64 0, .slice none 0 0] 44)).heap[w1.heap.size + 1]? = some (.cells #[.int .i64 t, .int .i64 wn, .int .u64 p, .int .u64 0, .slice none 0 0] 44) := alloc_at (by simp)
    obtain ⟨u0, u1, u2, u3, u4⟩ := cells5 g2
    go_wp2_with (first
      | (refine wpList_store_lit 23 w.heap.size 10 #[.int .i64 n, .int .i64 k, .int .i64 b, .int .i64 d, .int .i64 t, .int .i64 wn, .int .u64 p, .int .u64 r, .int .u64 s, .int .i64 o, .slice (some ⟨w1.heap.size + 1, 0, none⟩) 1 1] (.slice (some ⟨w1.heap.size + 1, 0, none⟩) 1 1) a2 sz23 (Nat.le_of_ble_eq_true rfl) rfl rfl ?_ ?_ ?_; exact rfl; exact rfl; intro w3 hp3; have a3 := hp3.at'; have z3 := hp3.row z2 (by omega); have g3 := hp3.row g2 (by have := HL1.out; omega); have m3 := hp3.row m2 (by have := HL1.out; omega); clear e0 e1 e2 e3 e4 e5 e6 e7 e8 e9 e10; obtain ⟨e0, e1, e2, e3, e4, e5, e6, e7, e8, e9, e10⟩ := cells11 a3; clear u0 u1 u2 u3 u4; obtain ⟨u0, u1, u2, u3, u4⟩ := cells5 g3)
      | (refine wpList_store_lit 3 w.heap.size 2 #[.int .i64 n, .int .i64 k, .int .i64 t, .int .i64 d, .int .i64 t, .int .i64 wn, .int .u64 p, .int .u64 r, .int .u64 s, .int .i64 o, .slice (some ⟨w1.heap.size + 1, 0, none⟩) 1 1] (.int .i64 t) a3 sz3 (Nat.le_of_ble_eq_true rfl) rfl rfl ?_ ?_ ?_; exact rfl; exact rfl; intro w4 hp4; have a4 := hp4.at'; have z4 := hp4.row z3 (by omega); have g4 := hp4.row g3 (by have := HL1.out; omega); have m4 := hp4.row m3 (by have := HL1.out; omega); clear e0 e1 e2 e3 e4 e5 e6 e7 e8 e9 e10; obtain ⟨e0, e1, e2, e3, e4, e5, e6, e7, e8, e9, e10⟩ := cells11 a4; clear u0 u1 u2 u3 u4; obtain ⟨u0, u1, u2, u3, u4⟩ := cells5 g4)
      | (refine wpList_store_lit 3 w.heap.size 4 #[.int .i64 n, .int .i64 k, .int .i64 t, .int .i64 d, .int .i64 b, .int .i64 wn, .int .u64 p, .int .u64 r, .int .u64 s, .int .i64 o, .slice (some ⟨w1.heap.size + 1, 0, none⟩) 1 1] (.int .i64 b) a4 sz3 (Nat.le_of_ble_eq_true rfl) rfl rfl ?_ ?_ ?_; exact rfl; exact rfl; intro w5 hp5; have a5 := hp5.at'; have z5 := hp5.row z4 (by omega); have g5 := hp5.row g4 (by have := HL1.out; omega); have m5 := hp5.row m4 (by have := HL1.out; omega); clear e0 e1 e2 e3 e4 e5 e6 e7 e8 e9 e10; obtain ⟨e0, e1, e2, e3, e4, e5, e6, e7, e8, e9, e10⟩ := cells11 a5; clear u0 u1 u2 u3 u4; obtain ⟨u0, u1, u2, u3, u4⟩ := cells5 g5))
    have HNE := Lib.hid (show w.heap.size ≠ w1.heap.size by have := HL1.out; omega)
    have fr5 := frozen_of_row _ _ 5 _ _ a5
    have fr6 := frozen_of_row _ _ 6 _ _ a5
    clear e0 e1 e2 e3 e4 e7 e8 e9 e10 u0 u3 u4
    have hne := HNE.out
    go_region_held3 (fun V => V.cell? ⟨w1.heap.size, 1, none⟩ = some (.int .i64 xi) ∧ V.cell? ⟨w1.heap.size, 2, none⟩ = some (.int .u64 xc) ∧ (V.cell? ⟨w.heap.size, 5, none⟩).isSome = true ∧ (V.cell? ⟨w.heap.size, 6, none⟩).isSome = true ∧ V.frozen? ⟨w.heap.size, 5, none⟩ = false ∧ V.frozen? ⟨w.heap.size, 6, none⟩ = false) ((go_split_ands; (try dsimp only); (repeat' apply And.intro) <;> (first | assumption | exact isSome_set_drew (by assumption) | exact isSome_set (by assumption) | go_keep)))
      (fail)
    have a7 : ((w5.setCell ⟨w.heap.size, 5, none⟩ (.int .i64 xi)).setCell ⟨w.heap.size, 6, none⟩ (.int .u64 xc)).drew.heap[w.heap.size]? = some (.cells #[.int .i64 n, .int .i64 k, .int .i64 t, .int .i64 d, .int .i64 b, .int .i64 xi, .int .u64 xc, .int .u64 r, .int .u64 s, .int .i64 o, .slice (some ⟨w1.heap.size + 1, 0, none⟩) 1 1] 25) := heap_setCell_same _ _ 6 _ _ _ (heap_setCell_same _ _ 5 _ _ _ a5)
    have z7 : ((w5.setCell ⟨w.heap.size, 5, none⟩ (.int .i64 xi)).setCell ⟨w.heap.size, 6, none⟩ (.int .u64 xc)).drew.heap[w.heap.size + 1]? = some (.cells #[.int .i64 0, .int .i64 0, .int .i64 0, .int .i64 0, .int .i64 0, .int .i64 0, .int .u64 0, .int .u64 0, .int .u64 0, .int .i64 0, .slice none 0 0] 25) := (heap_setCell_other _ _ _ _ (by simp)).trans ((heap_setCell_other _ _ _ _ (by simp)).trans z5)
    have m7 : ((w5.setCell ⟨w.heap.size, 5, none⟩ (.int .i64 xi)).setCell ⟨w.heap.size, 6, none⟩ (.int .u64 xc)).drew.heap[w1.heap.size + 1]? = some (.cells #[.int .i64 t, .int .i64 wn, .int .u64 p, .int .u64 0, .slice none 0 0] 44) := (heap_setCell_other _ _ _ _ (by have := HL1.out; simp only; omega)).trans ((heap_setCell_other _ _ _ _ (by have := HL1.out; simp only; omega)).trans m5)
    have hb5 : Below w.heap.size w w5 := by
      have hl := HL1.out
      have h2 := (HB1.out.alloc HB1.out.size (.cells #[.int .i64 xa, .int .i64 xi, .int .u64 xc, .int .u64 xp, .slice xw xs.length xk] 44)).alloc (HB1.out.alloc HB1.out.size _).size (.cells #[.int .i64 t, .int .i64 wn, .int .u64 p, .int .u64 0, .slice none 0 0] 44)
      have h3 := hp3.below h2 h2.size (Nat.le_refl _)
      have h4 := hp4.below h3 h3.size (Nat.le_refl _)
      exact hp5.below h4 h4.size (Nat.le_refl _)
    have hb7 : Below w.heap.size w ((w5.setCell ⟨w.heap.size, 5, none⟩ (.int .i64 xi)).setCell ⟨w.heap.size, 6, none⟩ (.int .u64 xc)).drew := below_grown hb5 (grown_set (grown_set (grown_refl w5 (some w.heap.size)) 5 _) 6 _) hb5.size (Nat.le_refl _) |>.drew
    generalize ((w5.setCell ⟨w.heap.size, 5, none⟩ (.int .i64 xi)).setCell ⟨w.heap.size, 6, none⟩ (.int .u64 xc)).drew = w7 at a7 z7 m7 hb7 ⊢
    have HB7 := Lib.hid hb7
    clear hb7 hb5 fr5 fr6 e5 e6 u1 u2 hp3 hp4 hp5 a5 z5 m5 g5
    obtain ⟨e0, e1, e2, e3, e4, e5, e6, e7, e8, e9, e10⟩ := cells11 a7
    go_wp2_with (refine wpList_store_lit 25 (w.heap.size + 1) 0 #[.int .i64 n, .int .i64 k, .int .i64 t, .int .i64 d, .int .i64 b, .int .i64 xi, .int .u64 xc, .int .u64 r, .int .u64 s, .int .i64 o, .slice (some ⟨w1.heap.size + 1, 0, none⟩) 1 1] (.agg #[.int .i64 n, .int .i64 k, .int .i64 t, .int .i64 d, .int .i64 b, .int .i64 xi, .int .u64 xc, .int .u64 r, .int .u64 s, .int .i64 o, .slice (some ⟨w1.heap.size + 1, 0, none⟩) 1 1]) z7 sz25 (Nat.le_of_ble_eq_true rfl) rfl rfl ?_ ?_ ?_; exact rfl; exact rfl; intro w8 hp8)
    have hl := HL1.out
    have HB8 := hp8.below HB7.out HB7.out.size (by omega)
    have hx8 := hp8.row m7 (by omega)
    refine bodyPost_ret (results_row_tmp Try.results11 _ _ (w.heap.size + 1) 25 _ _ _ rfl hp8.at' Try.underlying25 rfl sz25) rfl ⟨mirC ⟨n, k, b, d, t, wn, p, r, s, o, some ⟨ob, oo, none⟩, ec, [⟨xa, xi, xc, xp, xw, xk, xs⟩]⟩ ⟨xa, xi, xc, xp, xw, xk, xs⟩ (w1.heap.size + 1), ?_, HM.out.symm, newC_mir hx8 (by omega), HB8⟩
    rw [H0.out]; rfl
end Go.Proofs.Ytiafhgcnjgpeaaa
