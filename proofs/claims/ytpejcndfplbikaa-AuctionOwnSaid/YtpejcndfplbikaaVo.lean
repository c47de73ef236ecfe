/-
  Layer 21: copies; is an account among the entries.
-/
import Derived.Test.YtpejcndfplbikaaVn
namespace Go.Proofs.Ytpejcndfplbikaa
open Go.RowKit Go.K
set_option linter.unusedVariables false
set_option linter.unusedSimpArgs false
theorem eql31 (a : Option Addr) (n c : Nat) (w : World) : (binOp .eql 31 (.slice a n c) (.slice none 0 0)).run Try.prog w = .ok (.bool a.isNone) w := by
  simp only [binOp]
  simp [run_equal_slice_nil w 31 3 a n c Try.underlying31]
theorem clone_all (a : Option Addr) (c : Nat) (l : List Int) (w : World) (hl : l.length ≤ 17592186043904) (hs : Sl w a (vI l)) (hn : a = none → l.length = 0 ∧ c = 0) :
    Calls Try.prog 54 #[.slice a l.length c] w fun r w' => ∃ a' c', r = .returned (.slice a' l.length c') ∧ w'.ownsRow w.heap.size 3 1 (.slice a' l.length c') l.length (vI l) ∧ Below w.heap.size w w' := by
  cases a with
  | some x =>
    have HS := Lib.hid hs
    clear hs hn
    have hnil := eql31 (some x)
    go_enter Try.func54, Try.ntmps54
    have HB := Lib.hid ((Below.refl w.heap.size w).alloc (Nat.le_refl _) (.cells #[] 3))
    have HO := Lib.hid (show (w.alloc (.cells #[] 3)).ownsRow w.heap.size 3 1 (.slice (some ⟨w.heap.size, 0, none⟩) 0 0) 0 [] from ⟨rfl, .inr ⟨w.heap.size, 0, #[], rfl, Nat.le_refl _, alloc_at rfl, Nat.le_refl _, Nat.zero_le _, rfl, rfl⟩⟩)
    have h63 : 0 + l.length ≤ maxLen := by unfold maxLen; omega
    have hby : (0 + l.length) * 8 ≤ 140737488355328 := by omega
    go_wp2_with (at_builtin; refine wpList_append_sl rfl _ _ 31 rfl w.heap.size 3 (.int .i64 0) 1 8 Try.underlying31 infoI (by rfl) (by decide) (.slice (some ⟨w.heap.size, 0, none⟩) 0 0) 0 [] (by rfl) HO.out (some x) l.length c (vI l) (by rfl) (fun h => by cases h) (by rw [vI_length]; omega) (HS.out.kept HB.out) (oneCell_vI _) h63 hby HB.out.size ?a9)
    intro v1 w1 ho hg
    have HO1 := Lib.hid (show w1.ownsRow w.heap.size 3 1 v1 l.length (vI l) by simpa using ho)
    have HB1 := Lib.hid (HB.out.grown hg HB.out.size (fun k hk => by cases hk; exact Nat.le_refl _))
    clear ho hg
    obtain ⟨a', c', rfl, _⟩ := owns_slice HO1.out
    go_wp2
    go_ret
    exact ⟨a', c', rfl, HO1.out, HB1.out⟩
  | none =>
    obtain ⟨h1, rfl⟩ := hn rfl
    obtain rfl : l = [] := List.length_eq_zero_iff.1 h1
    have hnil := eql31 none
    go_enter Try.func54, Try.ntmps54
    go_wp2
    go_ret
    exact ⟨none, 0, rfl, World.ownsRow_nil _ _ _ _, Below.refl _ _⟩
/-- An entry whose wishes lie in memory of its own. -/
structure NewE (B : Nat) (W : World) (x : Ent) : Prop where
  row : W.ownsRow B 3 1 (.slice x.wa x.ws.length x.wc) x.ws.length (vI x.ws)
  mx : x.ws.length ≤ 17592186043904
  wf : Wf x.ws
  iw : (Lit.int .i64 x.item).wf = true
  cw : (Lit.int .u64 x.coins).wf = true
  pw : (Lit.int .u64 x.price).wf = true
theorem NewE.ok {B : Nat} {W : World} {x : Ent} (h : NewE B W x) : EntOk W x := by
  obtain ⟨a', c', hv, hn, hs, hle⟩ := owns_slice h.row
  injection hv with h1 h2 h3
  subst h1 h3
  exact ⟨hs, hle, h.mx, hn, h.wf, h.iw, h.cw, h.pw⟩
theorem NewE.kept {B : Nat} {W W' : World} {x : Ent} (h : NewE B W x) (hb : Below W.heap.size W W') : NewE B W' x := ⟨owns_below (B := 0) h.row hb, h.mx, h.wf, h.iw, h.cw, h.pw⟩
theorem NewE.base {B B' : Nat} {W : World} {x : Ent} (h : NewE B W x) (hb : B' ≤ B) : NewE B' W x := ⟨owns_base h.row hb, h.mx, h.wf, h.iw, h.cw, h.pw⟩
theorem NewE.grown {B B' : Nat} {W W' : World} {x : Ent} {v : Value} {n : Nat} {xs : List Value} (h : NewE B W x) (ho : W.ownsRow B' 33 5 v n xs) (hg : W.grownBy W' v.ownBlock) : NewE B W' x :=
  ⟨h.row.kept hg (owns_apart h.row ho (by decide)), h.mx, h.wf, h.iw, h.cw, h.pw⟩
theorem NewE.put {B g : Nat} {W W' : World} {x : Ent} {o : Obj} (h : NewE B W x) (hp : Put W g o W') (hg : g < B) : NewE B W' x :=
  ⟨h.row.kept hp.grown (.inr (fun e => by have := (h.row.lt g e).1; omega)), h.mx, h.wf, h.iw, h.cw, h.pw⟩
structure NewC (B : Nat) (W : World) (l : Con) : Prop where
  row : W.ownsRow B 33 5 (.slice l.ea l.es.length l.ec) l.es.length (eFlat l.es)
  ents : ∀ e ∈ l.es, NewE B W e
  mx : l.es.length ≤ 2513169434843
theorem NewC.ok {B : Nat} {W : World} {x : Con} (h : NewC B W x) : ConOk W x := by
  obtain ⟨a', c', hv, hn, hs, hle⟩ := owns_slice h.row
  injection hv with h1 h2 h3
  subst h1 h3
  exact ⟨hs, fun e he => (h.ents e he).ok, hle, h.mx, hn⟩
theorem NewC.kept {B : Nat} {W W' : World} {x : Con} (h : NewC B W x) (hb : Below W.heap.size W W') : NewC B W' x := ⟨owns_below (B := 0) h.row hb, fun e he => (h.ents e he).kept hb, h.mx⟩

def hasA (es : List Ent) (a : Int) : Bool := es.any fun x => decide (x.acc = a)
theorem hasA_yes {es : List Ent} {a : Int} (k : Nat) (h : k < es.length) (e : es[k].acc = a) : hasA es a = true := by
  unfold hasA
  rw [List.any_eq_true]
  exact ⟨_, List.getElem_mem h, by simpa using e⟩
theorem hasA_no {es : List Ent} {a : Int} (h : ∀ i (h : i < es.length), es[i].acc ≠ a) : hasA es a = false := by
  unfold hasA
  rw [List.any_eq_false]
  intro x hx
  obtain ⟨i, hi, rfl⟩ := List.getElem_of_mem hx
  simpa using h i hi
theorem joined_any (x : Ent) (a : Int) (pb : Nat) (w : World) (hp : w.cell? ⟨pb, 0, none⟩ = some (.int .i64 a)) :
    Calls Try.prog 37 #[x.agg, .pointer (some ⟨pb, 0, none⟩)] w fun r w' => r = .returned (.bool (x.acc == a)) ∧ Below w.heap.size w w' := by
  obtain ⟨a1, i1, c1, p1, wa1, wc1, ws1⟩ := x
  unfold Ent.agg
  have HB := Lib.hid ((Below.refl w.heap.size w).alloc (Nat.le_refl _) (.cells #[.int .i64 a1, .int .i64 i1, .int .u64 c1, .int .u64 p1, .slice wa1 ws1.length wc1] 33))
  have hp' := below_cell HB.out hp
  go_enter Try.func37, Try.ntmps37
  go_wp2
  go_ret
  exact ⟨rfl, HB.out⟩
theorem indexF_any (ea : Option Addr) (ec : Nat) (es : List Ent) (a : Int) (pb : Nat) (w : World) (hm : es.length ≤ 17592186043904) (hs : Sl w ea (eFlat es)) (hp : w.cell? ⟨pb, 0, none⟩ = some (.int .i64 a)) :
    Calls Try.prog 53 #[.slice ea es.length ec, .func (.func 37) #[] #[.pointer (some ⟨pb, 0, none⟩)]] w fun r w' => ∃ z : Int, r = .returned (.int .i64 z) ∧ decide (z ≥ 0) = hasA es a ∧ Below w.heap.size w w' := by
  have HS := Lib.hid hs
  have HP := Lib.hid hp
  clear hs hp
  go_enter Try.func53, Try.ntmps53
  go_wp2
  go_loopw [5, 8] (fun s5 i wr => ∃ k : Nat, k ≤ es.length ∧ i = .int .i64 k ∧ (∀ i (h : i < es.length), i < k → es[i].acc ≠ a) ∧ Below w.heap.size w wr) (fun _ i _ => es.length - (intOf i).toNat)
  case atStart => exact ⟨0, by omega, rfl, fun i h h2 => by omega, Below.refl _ _⟩
  case round =>
    obtain ⟨k, hk, rfl, hno, hb⟩ := hrel
    have HN := Lib.hid hno
    have HB := Lib.hid hb
    clear hno hb
    by_cases hlt : k < es.length
    · have t0 : decide ((k : Int) < (es.length : Int)) = true := by simp; omega
      have i1 : (k : Int) < (es.length : Int) := by omega
      obtain ⟨ob, oo, hea, f0, f1, f2, f3, f4⟩ := ent_at (HS.out.kept HB.out) k hlt
      subst hea
      have HY := Lib.hid (fun e => hasA_yes (es := es) (a := a) k hlt e)
      have HX := Lib.hid (show es[k].acc ≠ a → ∀ i (h : i < es.length), i < k + 1 → es[i].acc ≠ a from fun hne i h h2 => by
        by_cases e : i = k
        · subst e; exact hne
        · exact HN.out i h (by omega))
      have K60 := Lib.hid (fun (V : World) (hV : V.cell? ⟨pb, 0, none⟩ = some (.int .i64 a)) => joined_any es[k] a pb V hV)
      have hp' := below_cell HB.out HP.out
      have HP2 := Lib.hid hp'
      unfold Ent.agg at K60
      clear HN hp'
      generalize es[k] = x at *
      by_cases hx : x.acc = a
      · have u : (x.acc == a) = true := by simpa using hx
        have HQ := Lib.hid (HY.out hx)
        rw [u] at K60
        clear hx u
        go_wp2_with fail
        refine (K60.out _ HP2.out).mono ?_
        rintro r w1 ⟨rfl, hb⟩
        have HB2 := Lib.hid (HB.out.trans (hb.mono HB.out.size))
        clear hb
        go_wp2
        go_ret
        exact ⟨_, rfl, by rw [HQ.out]; exact decide_eq_true (by omega), HB2.out⟩
      · have u : (x.acc == a) = false := by simpa using hx
        have HQ := Lib.hid (HX.out hx)
        rw [u] at K60
        clear hx u
        go_wp2_with fail
        refine (K60.out _ HP2.out).mono ?_
        rintro r w1 ⟨rfl, hb⟩
        have HB2 := Lib.hid (HB.out.trans (hb.mono HB.out.size))
        clear hb
        go_wp2
        go_roundw
        case rel => exact ⟨k + 1, by omega, by go_num, HQ.out, HB2.out⟩
        case measure => simp [intOf]; omega
    · have t0 : decide ((k : Int) < (es.length : Int)) = false := by simp; omega
      have HQ := Lib.hid (hasA_no (es := es) (a := a) (fun i h => HN.out i h (by omega)))
      go_wp2
      go_ret
      exact ⟨_, rfl, by rw [HQ.out]; decide, HB.out⟩
theorem contains_any (ea : Option Addr) (ec : Nat) (es : List Ent) (a : Int) (pb : Nat) (w : World) (hm : es.length ≤ 17592186043904) (hs : Sl w ea (eFlat es)) (hp : w.cell? ⟨pb, 0, none⟩ = some (.int .i64 a)) :
    Calls Try.prog 36 #[.slice ea es.length ec, .func (.func 37) #[] #[.pointer (some ⟨pb, 0, none⟩)]] w fun r w' => r = .returned (.bool (hasA es a)) ∧ Below w.heap.size w w' := by
  have HI := Lib.hid (indexF_any ea ec es a pb w hm hs hp)
  clear hs hp
  go_enter Try.func36, Try.ntmps36
  go_wp2_with fail
  refine HI.out.mono ?_
  rintro r w1 ⟨z, rfl, hz, hb⟩
  have HZ := Lib.hid hz
  have HB := Lib.hid hb
  clear hz hb HI
  go_wp2
  go_ret
  exact ⟨by rw [← HZ.out]; rfl, HB.out⟩

end Go.Proofs.Ytpejcndfplbikaa
