/-
  Layer 22: an entry joins a contract.
-/
import Derived.Test.YtpikmcapnmdmbaaRe
namespace Go.Proofs.Ytpikmcapnmdmbaa
open Go.RowKit Go.K
set_option linter.unusedVariables false
set_option linter.unusedSimpArgs false
theorem clone_all (a : Option Addr) (c : Nat) (l : List Int) (w : World) (hl : l.length ≤ 17592186043904) (hs : Sl w a (vI l)) (hn : a = none → l.length = 0 ∧ c = 0) :
    Calls Try.prog 49 #[.slice a l.length c] w fun r w' => ∃ a' c', r = .returned (.slice a' l.length c') ∧ w'.ownsRow w.heap.size 3 1 (.slice a' l.length c') l.length (vI l) ∧ Below w.heap.size w w' := by
  cases a with
  | some x =>
    have HS := Lib.hid hs
    clear hs hn
    have hnil := eql22 (some x)
    go_enter Try.func49, Try.ntmps49
    have HB := Lib.hid ((Below.refl w.heap.size w).alloc (Nat.le_refl _) (.cells #[] 3))
    have HO := Lib.hid (show (w.alloc (.cells #[] 3)).ownsRow w.heap.size 3 1 (.slice (some ⟨w.heap.size, 0, none⟩) 0 0) 0 [] from ⟨rfl, .inr ⟨w.heap.size, 0, #[], rfl, Nat.le_refl _, alloc_at rfl, Nat.le_refl _, Nat.zero_le _, rfl, rfl⟩⟩)
    have h63 : 0 + l.length ≤ maxLen := by unfold maxLen; omega
    have hby : (0 + l.length) * 8 ≤ 140737488355328 := by omega
    go_wp2_with (at_builtin; refine wpList_append_sl rfl _ _ 22 rfl w.heap.size 3 (.int .i64 0) 1 8 Try.underlying22 infoI (by rfl) (by decide) (.slice (some ⟨w.heap.size, 0, none⟩) 0 0) 0 [] (by rfl) HO.out (some x) l.length c (vI l) (by rfl) (fun h => by cases h) (by rw [vI_length]; omega) (HS.out.kept HB.out) (oneCell_vI _) h63 hby HB.out.size ?a9)
    intro v1 w1 ho hg
    have HO1 := Lib.hid (show w1.ownsRow w.heap.size 3 1 v1 l.length (vI l) by simpa using ho)
    have HB1 := Lib.hid (HB.out.grown hg HB.out.size (fun k hk => by cases hk; exact Nat.le_refl _))
    clear ho hg
    obtain ⟨a', c', rfl, _⟩ := owns_slice HO1.out
    go_wp2
    go_ret
    exact ⟨a', c', rfl, HO1.out, HB1.out⟩
  | none =>
    obtain ⟨h1, rfl⟩ := hn rfl
    obtain rfl : l = [] := List.length_eq_zero_iff.1 h1
    have hnil := eql22 none
    go_enter Try.func49, Try.ntmps49
    go_wp2
    go_ret
    exact ⟨none, 0, rfl, World.ownsRow_nil _ _ _ _, Below.refl _ _⟩
/-- An entry whose wishes lie in memory of its own. -/
structure NewE (B : Nat) (W : World) (x : Ent) : Prop where
  row : W.ownsRow B 3 1 (.slice x.wa x.ws.length x.wc) x.ws.length (vI x.ws)
  mx : x.ws.length ≤ 17592186043904
  wf : Wf x.ws
  iw : (Lit.int .i64 x.item).wf = true
  cw : (Lit.int .u64 x.coins).wf = true
  pw : (Lit.int .u64 x.price).wf = true
theorem NewE.ok {B : Nat} {W : World} {x : Ent} (h : NewE B W x) : EntOk W x := by
  obtain ⟨a', c', hv, hn, hs, hle⟩ := owns_slice h.row
  injection hv with h1 h2 h3
  subst h1 h3
  exact ⟨hs, hle, h.mx, hn, h.wf, h.iw, h.cw, h.pw⟩
theorem NewE.kept {B : Nat} {W W' : World} {x : Ent} (h : NewE B W x) (hb : Below W.heap.size W W') : NewE B W' x := ⟨owns_below (B := 0) h.row hb, h.mx, h.wf, h.iw, h.cw, h.pw⟩
theorem NewE.base {B B' : Nat} {W : World} {x : Ent} (h : NewE B W x) (hb : B' ≤ B) : NewE B' W x := ⟨owns_base h.row hb, h.mx, h.wf, h.iw, h.cw, h.pw⟩
theorem NewE.grown {B B' : Nat} {W W' : World} {x : Ent} {v : Value} {n : Nat} {xs : List Value} (h : NewE B W x) (ho : W.ownsRow B' 48 5 v n xs) (hg : W.grownBy W' v.ownBlock) : NewE B W' x :=
  ⟨h.row.kept hg (owns_apart h.row ho (by decide)), h.mx, h.wf, h.iw, h.cw, h.pw⟩
theorem NewE.put {B g : Nat} {W W' : World} {x : Ent} {o : Obj} (h : NewE B W x) (hp : Put W g o W') (hg : g < B) : NewE B W' x :=
  ⟨h.row.kept hp.grown (.inr (fun e => by have := (h.row.lt g e).1; omega)), h.mx, h.wf, h.iw, h.cw, h.pw⟩
structure NewC (B : Nat) (W : World) (l : Con) : Prop where
  row : W.ownsRow B 48 5 (.slice l.ea l.es.length l.ec) l.es.length (eFlat l.es)
  ents : ∀ e ∈ l.es, NewE B W e
  mx : l.es.length ≤ 2513169434843
theorem NewC.ok {B : Nat} {W : World} {x : Con} (h : NewC B W x) : ConOk W x := by
  obtain ⟨a', c', hv, hn, hs, hle⟩ := owns_slice h.row
  injection hv with h1 h2 h3
  subst h1 h3
  exact ⟨hs, fun e he => (h.ents e he).ok, hle, h.mx, hn⟩
theorem NewC.kept {B : Nat} {W W' : World} {x : Con} (h : NewC B W x) (hb : Below W.heap.size W W') : NewC B W' x := ⟨owns_below (B := 0) h.row hb, fun e he => (h.ents e he).kept hb, h.mx⟩
theorem NewC.base {B B' : Nat} {W : World} {x : Con} (h : NewC B W x) (hb : B' ≤ B) : NewC B' W x := ⟨owns_base h.row hb, fun e he => (h.ents e he).base hb, h.mx⟩
def conZ : Con := ⟨0, 0, 0, 0, 0, 0, 0, 0, 0, 0, none, 0, []⟩
def joinD (c : Con) (e : Ent) : (Int × Int × Int × Int × Int) × (Int × Int × Int × Int × Int) × List (Int × Int × Int × Int × List Int) := ((c.num, c.kind, c.by', c.dl, c.to'), (c.want, c.price, c.reserve, c.step, c.of'), c.es.map Ent.d ++ [e.d])
def JoinAns (w : World) (c : Con) (e : Ent) (r : Ending) (w' : World) : Prop :=
  ∃ d : Con, r = .returned (.tuple #[d.agg, .slice none 0 0, .bool false, .int .i64 (joinV c e)]) ∧ Below w.heap.size w w' ∧ NewC w.heap.size w' d ∧ d.d = if joinV c e = 0 then joinD c e else conZ.d
theorem conZ_new (B : Nat) (W : World) : NewC B W conZ := ⟨World.ownsRow_nil _ _ _ _, fun e h => absurd h (by simp [conZ]), Nat.zero_le _⟩
theorem joinA_no {w w' : World} {c : Con} {e : Ent} {r : Ending} (v : Int) (hv : joinV c e = v) (h0 : v ≠ 0) (hr : r = .returned (.tuple #[conZ.agg, .slice none 0 0, .bool false, .int .i64 v])) (hb : Below w.heap.size w w') : JoinAns w c e r w' :=
  ⟨conZ, by rw [hv]; exact hr, hb, conZ_new _ _, by rw [hv, if_neg h0]⟩
theorem made43 (n : Nat) (h : n ≤ 2513169434843) : ∃ MC : Array Value, MC.size = (n + 1) * 5 ∧ ∀ W : World, (Instr.makeSlice 43 (.int .i64 0) (.int .i64 ((n : Int) + 1))).run Try.prog W = .ok (.slice (some ⟨W.heap.size, 0, none⟩) 0 (n + 1)) (W.alloc (.cells MC 48)) := by
  obtain ⟨i, hi, hz, hs, hb⟩ := info_parts infoE
  refine ⟨madeCells (Value.agg #[.int .i64 0, .int .i64 0, .int .u64 0, .int .u64 0, .slice none 0 0]).cells ((n + 1) * 5), size_madeCells _ _, fun W => ?_⟩
  have := run_make (P := Try.prog) W 43 48 i _ Try.underlying43 hi hz .i64 .i64 0 ((n + 1 : Nat) : Int) (by omega) (by omega) (by rw [hb]; omega) (by omega)
  have e : ((n + 1 : Nat) : Int) = (n : Int) + 1 := by omega
  simp only [Int.toNat_natCast, Int.toNat_zero, hs] at this
  rw [e] at this
  exact this
set_option maxRecDepth 100000 in
set_option maxHeartbeats 8000000 in
theorem join_any (c : Con) (e : Ent) (w : World) (hc : ConOk w c) (he : EntOk w e) : Calls Try.prog 30 #[c.agg, e.agg] w (JoinAns w c e) := by
  have HC := Lib.hid hc
  have HE := Lib.hid he
  have hm : c.es.length ≤ 2513169434843 := hc.mx
  clear hc he
  obtain ⟨n, k, b, d, t, wn, p, r, s, o, ea, ec, es⟩ := c
  obtain ⟨xa, xi, xc, xp, xw, xk, xs⟩ := e
  have HK := Lib.hid (fun (V : World) => ent_any ⟨xa, xi, xc, xp, xw, xk, xs⟩ V)
  unfold Con.agg Ent.agg at *
  simp only at HK hm ⊢
  go_enter Try.func30, Try.ntmps30
  go_upto_if 12 with fail
  refine wp_world (fun W => Below w.heap.size w W ∧ W.heap[w.heap.size]? = some (.cells #[.int .i64 n, .int .i64 k, .int .i64 b, .int .i64 d, .int .i64 t, .int .i64 wn, .int .u64 p, .int .u64 r, .int .u64 s, .int .i64 o, .slice ea es.length ec] 45) ∧ W.heap[w.heap.size + 1]? = some (.cells #[.int .i64 xa, .int .i64 xi, .int .u64 xc, .int .u64 xp, .slice xw xs.length xk] 48) ∧ W.heap[w.heap.size + 2]? = some (.cells #[.int .i64 0, .int .i64 0, .int .i64 0, .int .i64 0, .int .i64 0, .int .i64 0, .int .u64 0, .int .u64 0, .int .u64 0, .int .i64 0, .slice none 0 0] 45) ∧ W.heap[w.heap.size + 3]? = some (.cells #[.int .i64 0, .int .i64 0, .int .i64 0, .int .i64 0, .int .i64 0, .int .i64 0, .int .u64 0, .int .u64 0, .int .u64 0, .int .i64 0, .slice none 0 0] 45))
    ⟨((((Below.refl _ _).alloc (Nat.le_refl _) _).alloc (by simp) _).alloc (by simp; omega) _).alloc (by simp; omega) _, alloc_old (alloc_old (alloc_old (alloc_at rfl))), alloc_old (alloc_old (alloc_at (by simp))), alloc_old (alloc_at (by simp)), alloc_at (by simp)⟩ ?_
  rintro W ⟨hB, hR0, hR1, hR2, hR3⟩
  have HB := Lib.hid hB
  have R0 := Lib.hid hR0
  have R1 := Lib.hid hR1
  have R2 := Lib.hid hR2
  have R3 := Lib.hid hR3
  obtain ⟨p0, p1, p2, p3, p4, p5, p6, p7, p8, p9, p10⟩ := cells11 hR0
  obtain ⟨q0, q1, q2, q3, q4⟩ := cells5 hR1
  obtain ⟨z0, z1, z2, z3, z4, z5, z6, z7, z8, z9, z10⟩ := cells11 hR3
  clear hB hR0 hR1 hR2 hR3
  by_cases h : xa = b
  case pos =>
    have HT := Lib.hid (show joinV ⟨n, k, b, d, t, wn, p, r, s, o, ea, ec, es⟩ ⟨xa, xi, xc, xp, xw, xk, xs⟩ = 234 by unfold joinV; rw [if_pos h])
    have c1 : (xa == b) = true := by simpa using h
    clear h HK
    go_wp2_with (refine wpList_store_lit 45 (w.heap.size + 2) 0 #[.int .i64 0, .int .i64 0, .int .i64 0, .int .i64 0, .int .i64 0, .int .i64 0, .int .u64 0, .int .u64 0, .int .u64 0, .int .i64 0, .slice none 0 0] (.agg #[.int .i64 0, .int .i64 0, .int .i64 0, .int .i64 0, .int .i64 0, .int .i64 0, .int .u64 0, .int .u64 0, .int .u64 0, .int .i64 0, .slice none 0 0]) R2.out szC (Nat.le_of_ble_eq_true rfl) rfl rfl ?_ ?_ ?_; exact rfl; exact rfl; intro w9 hp9)
    have HB9 := hp9.below HB.out (HB.out).size (by omega)
    exact bodyPost_ret (results_row_tmp3 Try.results30 _ _ (w.heap.size + 2) 45 _ _ _ rfl hp9.at' Try.underlying45 rfl szC) rfl (joinA_no 234 HT.out (by decide) rfl HB9)
  have c1 : (xa == b) = false := by simpa using h
  have HJ := Lib.hid (show joinV ⟨n, k, b, d, t, wn, p, r, s, o, ea, ec, es⟩ ⟨xa, xi, xc, xp, xw, xk, xs⟩ = if k = 4 ∧ entP ⟨xa, xi, xc, xp, xw, xk, xs⟩ = true then (if hasA es xa = true then 236 else if 16 ≤ es.length then 232 else 0) else 200 by unfold joinV; rw [if_neg h])
  clear h
  by_cases hk : k = 4
  case neg =>
    have HT := Lib.hid (HJ.out.trans (if_neg (fun h => hk h.1)))
    have c2 : (k != 4) = true := by simpa using hk
    clear hk HK
    go_wp2_with (refine wpList_store_lit 45 (w.heap.size + 2) 0 #[.int .i64 0, .int .i64 0, .int .i64 0, .int .i64 0, .int .i64 0, .int .i64 0, .int .u64 0, .int .u64 0, .int .u64 0, .int .i64 0, .slice none 0 0] (.agg #[.int .i64 0, .int .i64 0, .int .i64 0, .int .i64 0, .int .i64 0, .int .i64 0, .int .u64 0, .int .u64 0, .int .u64 0, .int .i64 0, .slice none 0 0]) R2.out szC (Nat.le_of_ble_eq_true rfl) rfl rfl ?_ ?_ ?_; exact rfl; exact rfl; intro w9 hp9)
    have HB9 := hp9.below HB.out (HB.out).size (by omega)
    exact bodyPost_ret (results_row_tmp3 Try.results30 _ _ (w.heap.size + 2) 45 _ _ _ rfl hp9.at' Try.underlying45 rfl szC) rfl (joinA_no 200 HT.out (by decide) rfl HB9)
  have c2 : (k != 4) = false := by simpa using hk
  have HKK := Lib.hid hk
  clear hk
  go_wp2_with fail
  refine (HK.out _).mono ?_
  rintro r0 w1 ⟨rfl, hb⟩
  have HJ2 := Lib.hid HJ.out
  generalize entP ⟨xa, xi, xc, xp, xw, xk, xs⟩ = ep at *
  have HB := Lib.hid (HB.out.trans (hb.mono HB.out.size))
  have R0 := Lib.hid (row_kept R0.out hb)
  have R1 := Lib.hid (row_kept R1.out hb)
  have R2 := Lib.hid (row_kept R2.out hb)
  have R3 := Lib.hid (row_kept R3.out hb)
  clear hb HK p0 p1 p2 p3 p4 p5 p6 p7 p8 p9 p10 q0 q1 q2 q3 q4 z0 z1 z2 z3 z4 z5 z6 z7 z8 z9 z10
  obtain ⟨p0, p1, p2, p3, p4, p5, p6, p7, p8, p9, p10⟩ := cells11 R0.out
  obtain ⟨q0, q1, q2, q3, q4⟩ := cells5 R1.out
  obtain ⟨z0, z1, z2, z3, z4, z5, z6, z7, z8, z9, z10⟩ := cells11 R3.out
  cases ep
  case false =>
    have HT := Lib.hid (HJ2.out.trans (if_neg (fun h => by cases h.2)))
    go_wp2_with (refine wpList_store_lit 45 (w.heap.size + 2) 0 #[.int .i64 0, .int .i64 0, .int .i64 0, .int .i64 0, .int .i64 0, .int .i64 0, .int .u64 0, .int .u64 0, .int .u64 0, .int .i64 0, .slice none 0 0] (.agg #[.int .i64 0, .int .i64 0, .int .i64 0, .int .i64 0, .int .i64 0, .int .i64 0, .int .u64 0, .int .u64 0, .int .u64 0, .int .i64 0, .slice none 0 0]) R2.out szC (Nat.le_of_ble_eq_true rfl) rfl rfl ?_ ?_ ?_; exact rfl; exact rfl; intro w9 hp9)
    have HB9 := hp9.below HB.out (HB.out).size (by omega)
    exact bodyPost_ret (results_row_tmp3 Try.results30 _ _ (w.heap.size + 2) 45 _ _ _ rfl hp9.at' Try.underlying45 rfl szC) rfl (joinA_no 200 HT.out (by decide) rfl HB9)
  have HJ3 := Lib.hid (HJ2.out.trans (if_pos ⟨HKK.out, rfl⟩))
  clear HJ HJ2
  go_wp2_with fail
  refine (contains_any ea ec es xa (w.heap.size + 1) w1 (by omega) ((HC.out.kept HB.out).sl) q0).mono ?_
  rintro r0 w2 ⟨rfl, hb⟩
  have HB := Lib.hid (HB.out.trans (hb.mono HB.out.size))
  have R0 := Lib.hid (row_kept R0.out hb)
  have R1 := Lib.hid (row_kept R1.out hb)
  have R2 := Lib.hid (row_kept R2.out hb)
  have R3 := Lib.hid (row_kept R3.out hb)
  clear hb p0 p1 p2 p3 p4 p5 p6 p7 p8 p9 p10 q0 q1 q2 q3 q4 z0 z1 z2 z3 z4 z5 z6 z7 z8 z9 z10
  obtain ⟨p0, p1, p2, p3, p4, p5, p6, p7, p8, p9, p10⟩ := cells11 R0.out
  obtain ⟨q0, q1, q2, q3, q4⟩ := cells5 R1.out
  obtain ⟨z0, z1, z2, z3, z4, z5, z6, z7, z8, z9, z10⟩ := cells11 R3.out
  generalize hha : hasA es xa = ha at *
  clear hha
  cases ha
  case true =>
    have HT := Lib.hid (HJ3.out.trans (if_pos rfl))
    go_wp2_with (refine wpList_store_lit 45 (w.heap.size + 2) 0 #[.int .i64 0, .int .i64 0, .int .i64 0, .int .i64 0, .int .i64 0, .int .i64 0, .int .u64 0, .int .u64 0, .int .u64 0, .int .i64 0, .slice none 0 0] (.agg #[.int .i64 0, .int .i64 0, .int .i64 0, .int .i64 0, .int .i64 0, .int .i64 0, .int .u64 0, .int .u64 0, .int .u64 0, .int .i64 0, .slice none 0 0]) R2.out szC (Nat.le_of_ble_eq_true rfl) rfl rfl ?_ ?_ ?_; exact rfl; exact rfl; intro w9 hp9)
    have HB9 := hp9.below HB.out (HB.out).size (by omega)
    exact bodyPost_ret (results_row_tmp3 Try.results30 _ _ (w.heap.size + 2) 45 _ _ _ rfl hp9.at' Try.underlying45 rfl szC) rfl (joinA_no 236 HT.out (by decide) rfl HB9)
  have HJ4 := Lib.hid (HJ3.out.trans (if_neg (by decide)))
  clear HJ3
  by_cases hl : 16 ≤ es.length
  case pos =>
    have HT := Lib.hid (HJ4.out.trans (if_pos hl))
    have c3 : decide ((es.length : Int) ≥ 16) = true := decide_eq_true (by omega)
    clear hl
    go_wp2_with (refine wpList_store_lit 45 (w.heap.size + 2) 0 #[.int .i64 0, .int .i64 0, .int .i64 0, .int .i64 0, .int .i64 0, .int .i64 0, .int .u64 0, .int .u64 0, .int .u64 0, .int .i64 0, .slice none 0 0] (.agg #[.int .i64 0, .int .i64 0, .int .i64 0, .int .i64 0, .int .i64 0, .int .i64 0, .int .u64 0, .int .u64 0, .int .u64 0, .int .i64 0, .slice none 0 0]) R2.out szC (Nat.le_of_ble_eq_true rfl) rfl rfl ?_ ?_ ?_; exact rfl; exact rfl; intro w9 hp9)
    have HB9 := hp9.below HB.out (HB.out).size (by omega)
    exact bodyPost_ret (results_row_tmp3 Try.results30 _ _ (w.heap.size + 2) 45 _ _ _ rfl hp9.at' Try.underlying45 rfl szC) rfl (joinA_no 232 HT.out (by decide) rfl HB9)
  have HT := Lib.hid (HJ4.out.trans (if_neg hl))
  have c3 : decide ((es.length : Int) ≥ 16) = false := decide_eq_false (by omega)
  clear HJ4
  obtain ⟨MC, hMC, hmk⟩ := made43 es.length hm
  have HMC := Lib.hid hMC
  clear hMC hm z0 z1 z2 z3 z4 z5 z6 z7 z8 z9 z10
  have hsum : (es.length : Int) + 1 ≤ 16 := by omega
  have hB1 := (Below.refl w2.heap.size w2).alloc (Nat.le_refl _) (.cells MC 48)
  have p10' := below_cell hB1 p10
  have HO0 := Lib.hid (show (w2.alloc (.cells MC 48)).ownsRow w2.heap.size 48 5 (.slice (some ⟨w2.heap.size, 0, none⟩) 0 (es.length + 1)) 0 (eFlat []) from ⟨rfl, .inr ⟨w2.heap.size, es.length + 1, MC, rfl, Nat.le_refl _, alloc_at rfl, Nat.zero_le _, by unfold maxLen; omega, HMC.out, rfl⟩⟩)
  have HB1 := Lib.hid hB1
  have HSZ := Lib.hid (show w.heap.size + 4 ≤ w2.heap.size from by have := lt_row R3.out; omega)
  clear hB1
  go_wp2
  clear p0 p1 p2 p3 p4 p5 p6 p7 p8 p9 p10 p10' q0 q1 q2 q3 q4 hmk R3 HKK
  go_loopw [9, 11, 49] (fun v' s11 i wr => ∃ (j : Nat) (v : Value) (ls : List Ent), v = v' ∧ j ≤ es.length ∧ i = .int .i64 j ∧ ls.length = j ∧ ls.map Ent.d = (es.take j).map Ent.d ∧ Below w2.heap.size w2 wr ∧ wr.ownsRow w2.heap.size 48 5 v j (eFlat ls) ∧ ∀ e ∈ ls, NewE w2.heap.size wr e) (fun _ _ i _ => es.length - (intOf i).toNat)
  case atStart => exact ⟨0, _, [], rfl, by omega, rfl, rfl, rfl, HB1.out, HO0.out, fun e he => absurd he (by simp)⟩
  case round =>
    clear HB1 HO0
    obtain ⟨j, v, ls, hv, hj, rfl, hll, hld, hb, ho, hme⟩ := hrel
    subst hv
    have HBL := Lib.hid hb
    have HO := Lib.hid ho
    have HM := Lib.hid hme
    have HLL := Lib.hid hll
    have HLD := Lib.hid hld
    have HWS := Lib.hid (HB.out.trans (hb.mono HB.out.size))
    clear hb ho hme hll hld
    by_cases hlt : j < es.length
    · have t0 : decide ((j : Int) < (es.length : Int)) = true := by simp; omega
      have i1 : (j : Int) < (es.length : Int) := by omega
      obtain ⟨ob, oo, hea, f0, f1, f2, f3, f4⟩ := (HC.out.kept HWS.out).ent j hlt
      simp only at hea f0 f1 f2 f3 f4
      subst hea
      have HX := Lib.hid ((HC.out.ents _ (List.getElem_mem hlt)).kept HWS.out)
      have HD := Lib.hid (show (es.take (j + 1)).map Ent.d = (es.take j).map Ent.d ++ [es[j].d] by rw [List.take_succ_eq_append_getElem hlt, List.map_append]; rfl)
      generalize es[j] = x at *
      obtain ⟨ya, yi, yc, yp, yw, yk, ys⟩ := x
      simp only at f0 f1 f2 f3 f4
      go_wp2_with ((with_reducible refine at_store_op ?_); refine wpList_store_lit 48 wr.heap.size 0 #[.int .i64 ya, .int .i64 yi, .int .u64 yc, .int .u64 yp, .slice yw ys.length yk] (.agg #[.int .i64 ya, .int .i64 yi, .int .u64 yc, .int .u64 yp, .slice yw ys.length yk]) (alloc_at rfl) szE (Nat.le_of_ble_eq_true rfl) rfl rfl ?_ ?_ ?_; exact rfl; exact rfl; intro w3 hp3; obtain ⟨e0, e1, e2, e3, e4⟩ := cells5 hp3.at')
      have hb3 := hp3.below ((Below.refl wr.heap.size wr).alloc (Nat.le_refl _) _) ((Below.refl wr.heap.size wr).alloc (Nat.le_refl _) _).size (Nat.le_refl _)
      have HP3 := Lib.hid hp3
      have HB3 := Lib.hid hb3
      clear hp3 hb3 f0 f1 f2 f3 f4
      go_wp2_with fail
      refine (clone_all yw yk ys w3 HX.out.mx (HX.out.kept HB3.out).sl HX.out.nil).mono ?_
      rintro r0 w4 ⟨a', c', rfl, ho4, hb4⟩
      have HO4 := Lib.hid ho4
      have HB4 := Lib.hid (HB3.out.trans (hb4.mono HB3.out.size))
      have hr4 := row_kept HP3.out.at' hb4
      have HS3 := Lib.hid (lt_row HP3.out.at')
      clear ho4 hb4 e0 e1 e2 e3 e4
      go_wp2_with (first
        | ((with_reducible refine at_store_op ?_); refine wpList_store_lit 22 wr.heap.size 4 #[.int .i64 ya, .int .i64 yi, .int .u64 yc, .int .u64 yp, .slice a' ys.length c'] (.slice a' ys.length c') hr4 szL (Nat.le_of_ble_eq_true rfl) rfl rfl ?_ ?_ ?_; exact rfl; exact rfl; intro w5 hp5; obtain ⟨e0, e1, e2, e3, e4⟩ := cells5 hp5.at'
           have HB5 := Lib.hid (hp5.below HB4.out HB4.out.size (Nat.le_refl _))
           have HY := Lib.hid (show NewE w2.heap.size w5 ⟨ya, yi, yc, yp, a', c', ys⟩ from ⟨owns_base (HO4.out.kept hp5.grown (.inr (fun e => by have := (HO4.out.lt _ e).1; have := HS3.out; omega))) (by have := HBL.out.size; have := HB3.out.size; omega), HX.out.mx, HX.out.wf, HX.out.iw, HX.out.cw, HX.out.pw⟩)
           have HO5 := Lib.hid (owns_below (B := 0) HO.out HB5.out)
           have HM5 := Lib.hid (show ∀ e ∈ ls, NewE w2.heap.size w5 e from fun e he => (HM.out e he).kept HB5.out)
           have HW5 := Lib.hid (HBL.out.trans (HB5.out.mono HBL.out.size))
           clear hp5 hr4)
        | (at_builtin; refine wpList_append_sl rfl _ _ 43 rfl w2.heap.size 48 (.agg #[.int .i64 0, .int .i64 0, .int .u64 0, .int .u64 0, .slice none 0 0]) 5 56 Try.underlying43 infoE rfl (by decide) v j (eFlat ls) rfl (HO5.out.alloc _) (some ⟨w5.heap.size, 0, none⟩) 1 1 (eFlat [⟨ya, yi, yc, yp, a', c', ys⟩]) rfl (fun h => by cases h) ?a1 (sl_new _ _ _ _) (oneCell_eFlat _) ?a2 ?a3 ?a4 ?a5))
      case a1 => rfl
      case a2 => unfold maxLen; omega
      case a3 => omega
      case a4 => have := HW5.out.size; simp only [World.size_alloc]; omega
      intro v6 w6 ho6 hg6
      have hbz := (Below.refl w5.heap.size w5).alloc (Nat.le_refl _) (.cells #[.int .i64 ya, .int .i64 yi, .int .u64 yc, .int .u64 yp, .slice a' ys.length c'] 48)
      have ho5 := HO5.out.alloc (.cells #[.int .i64 ya, .int .i64 yi, .int .u64 yc, .int .u64 yp, .slice a' ys.length c'] 48)
      have HB6 := Lib.hid ((HW5.out.trans (hbz.mono HW5.out.size)).grown hg6 (HW5.out.trans (hbz.mono HW5.out.size)).size (fun k hk => (ho5.lt k hk).1))
      have HO6 := Lib.hid ho6
      have HM6 := Lib.hid (show ∀ e ∈ ls ++ [⟨ya, yi, yc, yp, a', c', ys⟩], NewE w2.heap.size w6 e from fun e he => by
        rcases List.mem_append.1 he with h | h
        · exact ((HM5.out e h).kept hbz).grown ho5 hg6
        · rw [List.mem_singleton] at h
          subst h
          exact (HY.out.kept hbz).grown ho5 hg6)
      clear ho6 hg6 hbz ho5 e0 e1 e2 e3 e4
      go_wp2
      go_roundw
      case rel => exact ⟨j + 1, _, ls ++ [⟨ya, yi, yc, yp, a', c', ys⟩], rfl, by omega, by go_num, by rw [List.length_append, HLL.out]; rfl, by rw [HD.out, List.map_append, HLD.out]; rfl, HB6.out, by rw [eFlat_append]; exact HO6.out, HM6.out⟩
      case measure => simp [intOf]; omega
    · have t0 : decide ((j : Int) < (es.length : Int)) = false := by simp; omega
      have hje : j = es.length := by omega
      have HDD := Lib.hid (show ls.map Ent.d = es.map Ent.d by rw [HLD.out, hje, List.take_length])
      have HLE := Lib.hid (show ls.length = es.length by rw [HLL.out, hje])
      have HO' := Lib.hid (show wr.ownsRow w2.heap.size 48 5 v es.length (eFlat ls) from hje ▸ HO.out)
      clear HO HLL HLD hje
      have HX := Lib.hid (HE.out.kept HWS.out)
      have HR1 := Lib.hid (row_kept R1.out HBL.out)
      obtain ⟨q0, q1, q2, q3, q4⟩ := cells5 HR1.out
      go_wp2_with fail
      refine (clone_all xw xk xs wr HX.out.mx HX.out.sl HX.out.nil).mono ?_
      rintro r0 w4 ⟨a', c', rfl, ho4, hb4⟩
      have HO4 := Lib.hid ho4
      have HB4 := Lib.hid (HBL.out.trans (hb4.mono HBL.out.size))
      have hr4 := row_kept HR1.out hb4
      have HO5 := Lib.hid (owns_below (B := 0) HO'.out hb4)
      have HM5 := Lib.hid (fun e he => (HM.out e he).kept hb4)
      have hr0 := row_kept (row_kept R0.out HBL.out) hb4
      have hr2 := row_kept (row_kept R2.out HBL.out) hb4
      have HS4 := Lib.hid HBL.out.size
      clear ho4 hb4 q0 q1 q2 q3 q4
      go_wp2_with (first
        | ((with_reducible refine at_store_op ?_); refine wpList_store_lit 22 (w.heap.size + 1) 4 #[.int .i64 xa, .int .i64 xi, .int .u64 xc, .int .u64 xp, .slice a' xs.length c'] (.slice a' xs.length c') hr4 szL (Nat.le_of_ble_eq_true rfl) rfl rfl ?_ ?_ ?_; exact rfl; exact rfl; intro w5 hp5; obtain ⟨e0, e1, e2, e3, e4⟩ := cells5 hp5.at'
           have HY := Lib.hid (show NewE w2.heap.size w5 ⟨xa, xi, xc, xp, a', c', xs⟩ from ⟨owns_base (HO4.out.kept hp5.grown (.inr (fun e => by have := (HO4.out.lt _ e).1; have := HS4.out; have := HSZ.out; omega))) HS4.out, HX.out.mx, HX.out.wf, HX.out.iw, HX.out.cw, HX.out.pw⟩)
           have HO6 := Lib.hid (HO5.out.kept hp5.grown (.inr (fun e => by have := (HO5.out.lt _ e).1; have := HSZ.out; omega)))
           have HM6 := Lib.hid (show ∀ e ∈ ls, NewE w2.heap.size w5 e from fun e he => (HM5.out e he).put hp5 (by have := HSZ.out; omega))
           have HW5 := Lib.hid (hp5.below (HB.out.trans (HB4.out.mono HB.out.size)) (HB.out.trans (HB4.out.mono HB.out.size)).size (by omega))
           have HS5 := Lib.hid (show w2.heap.size ≤ w5.heap.size from by have := HB4.out.size; have := hp5.size; omega)
           have s0 := hp5.row hr0 (by omega)
           have s2 := hp5.row hr2 (by omega)
           have HS0 := Lib.hid s0
           have HS2 := Lib.hid s2
           clear hp5 hr4 hr0 hr2 s0 s2)
        | (at_builtin; refine wpList_append_sl rfl _ _ 43 rfl w2.heap.size 48 (.agg #[.int .i64 0, .int .i64 0, .int .u64 0, .int .u64 0, .slice none 0 0]) 5 56 Try.underlying43 infoE rfl (by decide) v es.length (eFlat ls) rfl (HO6.out.alloc _) (some ⟨w5.heap.size, 0, none⟩) 1 1 (eFlat [⟨xa, xi, xc, xp, a', c', xs⟩]) rfl (fun h => by cases h) ?d1 (sl_new _ _ _ _) (oneCell_eFlat _) ?d2 ?d3 ?d4 ?d5))
      case d1 => rfl
      case d2 => unfold maxLen; omega
      case d3 => omega
      case d4 => have := HS5.out; simp only [World.size_alloc]; omega
      intro v7 w7 ho7 hg7
      have hbz := (Below.refl w5.heap.size w5).alloc (Nat.le_refl _) (.cells #[.int .i64 xa, .int .i64 xi, .int .u64 xc, .int .u64 xp, .slice a' xs.length c'] 48)
      have ho6 := HO6.out.alloc (.cells #[.int .i64 xa, .int .i64 xi, .int .u64 xc, .int .u64 xp, .slice a' xs.length c'] 48)
      have HB7 := Lib.hid ((HW5.out.trans (hbz.mono HW5.out.size)).grown hg7 (HW5.out.trans (hbz.mono HW5.out.size)).size (fun k hk => by have := (ho6.lt k hk).1; have := HSZ.out; omega))
      have HM7 := Lib.hid (show ∀ e ∈ ls ++ [⟨xa, xi, xc, xp, a', c', xs⟩], NewE w2.heap.size w7 e from fun e he => by
        rcases List.mem_append.1 he with h | h
        · exact ((HM6.out e h).kept hbz).grown ho6 hg7
        · rw [List.mem_singleton] at h
          subst h
          exact (HY.out.kept hbz).grown ho6 hg7)
      have q0 := row_past (alloc_old HS0.out) hg7 (fun h => by have := (ho6.lt _ h.symm).1; have := HSZ.out; omega)
      have q2 := row_past (alloc_old HS2.out) hg7 (fun h => by have := (ho6.lt _ h.symm).1; have := HSZ.out; omega)
      have HO7 := Lib.hid (show w7.ownsRow w2.heap.size 48 5 v7 (es.length + 1) (eFlat (ls ++ [⟨xa, xi, xc, xp, a', c', xs⟩])) from by rw [eFlat_append]; exact ho7)
      obtain ⟨a7, c7, rfl, _⟩ := owns_slice HO7.out
      clear ho7 hg7 ho6 hbz e0 e1 e2 e3 e4
      go_wp2_with (first
        | ((with_reducible refine at_store_op ?_); refine wpList_store_lit 43 w.heap.size 10 #[.int .i64 n, .int .i64 k, .int .i64 b, .int .i64 d, .int .i64 t, .int .i64 wn, .int .u64 p, .int .u64 r, .int .u64 s, .int .i64 o, .slice a7 (es.length + 1) c7] (.slice a7 (es.length + 1) c7) q0 szEs (Nat.le_of_ble_eq_true rfl) rfl rfl ?_ ?_ ?_; exact rfl; exact rfl; intro w8 hp8; obtain ⟨e0, e1, e2, e3, e4, e5, e6, e7, e8, e9, e10⟩ := cells11 hp8.at'; have s2 := hp8.row q2 (by omega))
        | ((with_reducible refine at_store_op ?_); refine wpList_store_lit 45 (w.heap.size + 2) 0 #[.int .i64 n, .int .i64 k, .int .i64 b, .int .i64 d, .int .i64 t, .int .i64 wn, .int .u64 p, .int .u64 r, .int .u64 s, .int .i64 o, .slice a7 (es.length + 1) c7] (.agg #[.int .i64 n, .int .i64 k, .int .i64 b, .int .i64 d, .int .i64 t, .int .i64 wn, .int .u64 p, .int .u64 r, .int .u64 s, .int .i64 o, .slice a7 (es.length + 1) c7]) s2 szC (Nat.le_of_ble_eq_true rfl) rfl rfl ?_ ?_ ?_; exact rfl; exact rfl; intro w9 hp9))
      have hsz := HSZ.out
      have hb8 := hp8.below HB7.out HB7.out.size (Nat.le_refl _)
      have hb9 := hp9.below hb8 hb8.size (by omega)
      have ho9 := (HO7.out.kept hp8.grown (.inr (fun e => by have := (HO7.out.lt _ e).1; omega))).kept hp9.grown (.inr (fun e => by have := (HO7.out.lt _ e).1; omega))
      have hm9 : ∀ e ∈ ls ++ [⟨xa, xi, xc, xp, a', c', xs⟩], NewE w2.heap.size w9 e := fun e he => ((HM7.out e he).put hp8 (by omega)).put hp9 (by omega)
      have hln : (ls ++ [(⟨xa, xi, xc, xp, a', c', xs⟩ : Ent)]).length = es.length + 1 := by rw [List.length_append, HLE.out]; rfl
      refine bodyPost_ret (results_row_tmp3 Try.results30 _ _ (w.heap.size + 2) 45 _ _ _ rfl hp9.at' Try.underlying45 rfl szC) rfl ⟨⟨n, k, b, d, t, wn, p, r, s, o, a7, c7, ls ++ [⟨xa, xi, xc, xp, a', c', xs⟩]⟩, ?_, hb9, ⟨?_, fun e he => (hm9 e he).base (by omega), by simp only [hln]; omega⟩, ?_⟩
      · simp only [Con.agg, hln, HT.out]; rfl
      · simp only [hln]; exact owns_base ho9 (by omega)
      · rw [HT.out, if_pos rfl]
        show (_, _, (ls ++ [_]).map Ent.d) = (_, _, es.map Ent.d ++ [_])
        rw [List.map_append, HDD.out]; rfl
end Go.Proofs.Ytpikmcapnmdmbaa
