/-
  Layer 22: what Clear keeps from round to round.
-/
import Derived.Test.YtpikmcapnmdmbaaWc
import Derived.Test.YtpikmcapnmdmbaaPa
namespace Go.Proofs.Ytpikmcapnmdmbaa
open Go.RowKit Go.K Go.Maps
set_option linter.unusedVariables false
set_option linter.unusedSimpArgs false

def vN (l : List Nat) : List Value := l.map fun (i : Nat) => Value.int .i64 (i : Int)
theorem vN_length (l : List Nat) : (vN l).length = l.length := by simp [vN]
theorem vN_append (l m : List Nat) : vN (l ++ m) = vN l ++ vN m := by simp [vN]
theorem vN_eq (l : List Nat) : vN l = vI (l.map fun (i : Nat) => (i : Int)) := by simp [vN, vI, Function.comp_def]
theorem vN_get (l : List Nat) (i : Nat) (h : i < l.length) : (vN l)[i]? = some (.int .i64 ((l.getD i 0 : Nat) : Int)) := by
  simp [vN, List.getElem?_eq_getElem h, List.getD_eq_getElem?_getD]
theorem oneCell_vN (l : List Nat) : ∀ u ∈ vN l, u.oneCell' = true := by rw [vN_eq]; exact oneCell_vI _
def cyV (cs : List (List Nat)) (gs : List (Nat × Nat)) : List Value := List.zipWith (fun (c : List Nat) (g : Nat × Nat) => Value.slice (some ⟨g.1, 0, none⟩) c.length g.2) cs gs
structure CycS (B : Nat) (W : World) (cs : List (List Nat)) (gs : List (Nat × Nat)) : Prop where
  len : gs.length = cs.length
  row : ∀ t (h : t < cs.length) (h' : t < gs.length), W.ownsRow B 3 1 (.slice (some ⟨gs[t].1, 0, none⟩) cs[t].length gs[t].2) cs[t].length (vN cs[t])
  inc : gs.Pairwise (fun a b => a.1 < b.1)
theorem CycS.lt {B : Nat} {W : World} {cs : List (List Nat)} {gs : List (Nat × Nat)} (h : CycS B W cs gs) : ∀ g ∈ gs, B ≤ g.1 ∧ g.1 < W.heap.size := by
  intro g hg
  obtain ⟨t, ht, rfl⟩ := List.mem_iff_getElem.1 hg
  exact (h.row t (by have := h.len; omega) ht).lt _ rfl
theorem CycS.only {B : Nat} {S : Nat → Prop} {W W' : World} {cs : List (List Nat)} {gs : List (Nat × Nat)} (h : CycS B W cs gs) (ho : Only S W W') (hS : ∀ g ∈ gs, ¬ S g.1) : CycS B W' cs gs :=
  ⟨h.len, fun t ht ht' => ho.owns (h.row t ht ht') (fun k hk => by injection hk with e; subst e; exact hS _ (List.getElem_mem ht')), h.inc⟩
theorem CycS.nil (B : Nat) (W : World) : CycS B W [] [] := ⟨rfl, fun t h => absurd h (Nat.not_lt_zero t), List.Pairwise.nil⟩
theorem CycS.snoc {B : Nat} {W : World} {cs : List (List Nat)} {gs : List (Nat × Nat)} (h : CycS B W cs gs) {c : List Nat} {g k : Nat} (hr : W.ownsRow B 3 1 (.slice (some ⟨g, 0, none⟩) c.length k) c.length (vN c)) (hg : ∀ x ∈ gs, x.1 < g) : CycS B W (cs ++ [c]) (gs ++ [(g, k)]) := by
  refine ⟨by simp [h.len], fun t ht ht' => ?_, ?_⟩
  · have hl := h.len
    by_cases e : t < cs.length
    · rw [List.getElem_append_left e, List.getElem_append_left (by omega)]
      exact h.row t e (by omega)
    · have e2 : t = cs.length := by simp at ht; omega
      subst e2
      simp only [List.getElem_append_right (Nat.le_refl _), Nat.sub_self, List.getElem_singleton]
      rw [List.getElem_append_right (by omega)]
      simp only [hl, Nat.sub_self, List.getElem_singleton]
      exact hr
  · rw [List.pairwise_append]
    exact ⟨h.inc, List.pairwise_singleton _ _, fun a ha b hb => by rw [List.mem_singleton.1 hb]; exact hg a ha⟩
theorem cyV_length {cs : List (List Nat)} {gs : List (Nat × Nat)} (h : gs.length = cs.length) : (cyV cs gs).length = cs.length := by simp [cyV, h]
theorem cyV_snoc {cs : List (List Nat)} {gs : List (Nat × Nat)} (h : gs.length = cs.length) (c : List Nat) (g k : Nat) : cyV (cs ++ [c]) (gs ++ [(g, k)]) = cyV cs gs ++ [.slice (some ⟨g, 0, none⟩) c.length k] := by
  unfold cyV
  rw [List.zipWith_append h.symm]
  rfl
theorem Meet.only {S : Nat → Prop} {W0 W W' : World} {gm gb go gp : Nat} {ia : Option Addr} {ic : Nat} {is : List Int} {wa : Option Addr} {wc : Nat} {ws : List Wl} {D : Nat → Bool} {P : Nat → Nat} (h : Meet W0 W gm gb go gp ia ic is wa wc ws D P)
    (ho : Only S W W') (h0 : ∀ k, S k → W0.heap.size ≤ k) (hm : ¬ S gm) (hb : ¬ S gb) (hg : ¬ S go) (hp : ¬ S gp) : Meet W0 W' gm gb go gp ia ic is wa wc ws D P := by
  refine ⟨h.base.trans (ho.below h.base.size h0), h.items, h.wishes, h.ge, ho.row h.row hm, ?_, ho.row h.gone hg, ho.row h.passed hp, h.wf, h.len, h.nd⟩
  obtain ⟨Dm, ⟨es, ck, hr, h2⟩, h3⟩ := h.by'
  exact ⟨Dm, ⟨es, ck, ho.row hr hb, h2⟩, h3⟩
theorem Meet.gone' {W0 W W' : World} {gm gb go gp : Nat} {ia : Option Addr} {ic : Nat} {is : List Int} {wa : Option Addr} {wc : Nat} {ws : List Wl} {D D' : Nat → Bool} {P : Nat → Nat} {S : Nat → Prop} (h : Meet W0 W gm gb go gp ia ic is wa wc ws D P)
    (ho : Only S W W') (h0 : ∀ k, S k → W0.heap.size ≤ k) (hm : ¬ S gm) (hb : ¬ S gb) (hp : ¬ S gp) (hg : W'.heap[go]? = some (.cells (tabB is.length D') 4 (0, 0))) : Meet W0 W' gm gb go gp ia ic is wa wc ws D' P := by
  refine ⟨h.base.trans (ho.below h.base.size h0), h.items, h.wishes, h.ge, ho.row h.row hm, ?_, hg, ho.row h.passed hp, h.wf, h.len, h.nd⟩
  obtain ⟨Dm, ⟨es, ck, hr, h2⟩, h3⟩ := h.by'
  exact ⟨Dm, ⟨es, ck, ho.row hr hb, h2⟩, h3⟩
theorem owns_apart' {W : World} {B B' : Nat} {e e' : TypeId} {s s' n n' : Nat} {v v' : Value} {xs xs' : List Value} (h : W.ownsRow B e s v n xs) (h' : W.ownsRow B' e' s' v' n' xs') (hne : e ≠ e') : v.ownBlock = none ∨ v.ownBlock ≠ v'.ownBlock := by
  rcases h.2 with ⟨rfl, _⟩ | ⟨g, cap, cur, rfl, _, hr, _⟩
  · exact .inl rfl
  · refine .inr fun e2 => ?_
    rcases h'.2 with ⟨rfl, _⟩ | ⟨g', cap', cur', rfl, _, hr', _⟩
    · cases e2
    · injection e2 with e2
      subst e2
      rw [hr] at hr'
      injection hr' with e3
      injection e3 with _ e3
      exact hne e3
theorem live_gadd {is : List Int} {D : Nat → Bool} {c : List Nat} {x : Int} (h : liveAt is D x = none) : liveAt is (gadd D c) x = none := by
  unfold liveAt at h ⊢
  split
  · rename_i k e
    rw [e] at h
    simp only at h
    split at h
    · rename_i hd
      rw [if_pos (gadd_true.2 (.inl hd))]
    · cases h
  · rfl
theorem PassOk.gadd {is : List Int} {ws : List Wl} {D : Nat → Bool} {P : Nat → Nat} (h : PassOk is ws D P) (c : List Nat) : PassOk is ws (gadd D c) P := ⟨h.le, fun i hi q hq hqp => live_gadd (h.dead i hi q hq hqp)⟩
def lenOf : Value → Nat
  | .slice _ l _ => l
  | _ => 0
def isOpen : Value → Bool
  | .bool false => true
  | _ => false
def leftOf (W : World) (g : Nat) : Nat := match W.heap[g]? with
  | some (.cells cs _ _) => cs.toList.countP isOpen
  | _ => 0
def nLeft (n : Nat) (D : Nat → Bool) : Nat := (List.range n).countP fun i => !D i
theorem leftOf_eq {W : World} {g n : Nat} {D : Nat → Bool} (h : W.heap[g]? = some (.cells (tabB n D) 4 (0, 0))) : leftOf W g = nLeft n D := by
  unfold leftOf nLeft
  rw [h]
  simp only [tabB, List.countP_map]
  congr 1
  funext i
  simp only [Function.comp]
  cases D i <;> rfl
theorem countP_lt {l : List Nat} {p q : Nat → Bool} (h : ∀ i ∈ l, q i = true → p i = true) {x : Nat} (hx : x ∈ l) (hp : p x = true) (hq : q x = false) : l.countP q + 1 ≤ l.countP p := by
  induction l with
  | nil => cases hx
  | cons a l ih =>
    rw [List.countP_cons, List.countP_cons]
    have hm : l.countP q ≤ l.countP p := List.countP_mono_left fun i hi => h i (List.mem_cons_of_mem _ hi)
    rcases List.mem_cons.1 hx with e | e
    · subst e
      rw [hp, hq]
      simp; omega
    · have := ih (fun i hi => h i (List.mem_cons_of_mem _ hi)) e
      have ha := h a (List.mem_cons_self ..)
      cases hqa : q a
      · simp; omega
      · rw [ha hqa]; simp; omega
theorem nLeft_gadd {n : Nat} {D : Nat → Bool} {c : List Nat} {f : Nat → Nat} (h : Ring n f D c) : nLeft n (gadd D c) + 1 ≤ nLeft n D := by
  have h0 := getD_mem h.pos
  refine countP_lt (x := c.getD 0 0) (fun i _ hi => ?_) (List.mem_range.2 (h.lt _ h0)) ?_ ?_
  · have : gadd D c i = false := by simpa using hi
    have := (gadd_false.1 this).1
    simp [this]
  · show (!D _) = true; rw [h.left _ h0]; rfl
  · show (!gadd D c _) = false; rw [gadd_true.2 (.inr h0)]; rfl
/-- What each who is gone got. -/
def GotOk (is : List Int) (cs : List (List Nat)) (G : Nat → Int) : Prop := ∀ c ∈ cs, ∀ k, k < c.length → G (c.getD k 0) = is.getD (c.getD ((k + 1) % c.length) 0) 0
def PlaceOk (n : Nat) (wl : List Nat) (L : Nat → Int) : Prop := (∀ k, k < wl.length → L (wl.getD k 0) = ((k + 1 : Nat) : Int)) ∧ ∀ i, i < n → i ∉ wl → L i = 0
structure CI (W0 : World) (g0 gb go gp : Nat) (ia : Option Addr) (ic : Nat) (is : List Int) (wa : Option Addr) (wc : Nat) (ws : List Wl) (W : World) (D : Nat → Bool) (P : Nat → Nat) (G L : Nat → Int) (at' : Nat) (wl : List Nat) (vw : Value) (cs : List (List Nat)) (gs : List (Nat × Nat)) (vc : Value) : Prop where
  lo : W0.heap.size ≤ gb ∧ gb < g0 ∧ g0 ≤ go ∧ go < g0 + 2 ∧ g0 ≤ gp ∧ gp < g0 + 2 ∧ go ≠ gp
  meet : Meet W0 W (g0 + 2) gb go gp ia ic is wa wc ws D P
  pass : PassOk is ws D P
  got : W.heap[g0 + 3]? = some (.cells (tabI is.length G) 3 (0, 0))
  place : W.heap[g0 + 4]? = some (.cells (tabI is.length L) 3 (0, 0))
  way : W.ownsRow (g0 + 5) 3 1 vw wl.length (vN wl)
  cyc : W.ownsRow (g0 + 5) 22 1 vc cs.length (cyV cs gs)
  rows : CycS (g0 + 5) W cs gs
  apart : ∀ y, vw.ownBlock = some y → ∀ g ∈ gs, g.1 ≠ y
  run : RunTo is.length (pts is (ws.map Wl.l)) cs D
  gotOk : GotOk is cs G
  wayOk : Way is.length (pts is (ws.map Wl.l) D) D at' wl
  placeOk : PlaceOk is.length wl L
  le : at' ≤ is.length
  done : ∀ j, j < at' → D j = true
variable {W0 : World} {g0 gb go gp : Nat} {ia : Option Addr} {ic : Nat} {is : List Int} {wa : Option Addr} {wc : Nat} {ws : List Wl} {W W' : World} {D : Nat → Bool} {P : Nat → Nat} {G L : Nat → Int} {at' : Nat} {wl : List Nat} {vw : Value} {cs : List (List Nat)} {gs : List (Nat × Nat)} {vc : Value}
theorem CI.size (h : CI W0 g0 gb go gp ia ic is wa wc ws W D P G L at' wl vw cs gs vc) : g0 + 5 ≤ W.heap.size := by have := lt_row h.place; omega
/-- The one at hand is gone: the next. -/
theorem CI.next (h : CI W0 g0 gb go gp ia ic is wa wc ws W D P G L at' [] vw cs gs vc) (hl : at' < is.length) (hD : D at' = true) : CI W0 g0 gb go gp ia ic is wa wc ws W D P G L (at' + 1) [] vw cs gs vc := by
  have hd : ∀ j, j < at' + 1 → D j = true := fun j hj => by
    by_cases e : j = at'
    · rw [e]; exact hD
    · exact h.done j (by omega)
  exact { h with wayOk := Way.nil _ _ _ _, le := hl, done := hd }
/-- The wishes passed. -/
theorem CI.point (h : CI W0 g0 gb go gp ia ic is wa wc ws W D P G L at' wl vw cs gs vc) {P' : Nat → Nat} (ho : Only (· = gp) W W') (hm : Meet W0 W' (g0 + 2) gb go gp ia ic is wa wc ws D P') (hp : PassOk is ws D P') :
    CI W0 g0 gb go gp ia ic is wa wc ws W' D P' G L at' wl vw cs gs vc := by
  have hlo := h.lo
  have hw := ho.owns h.way (fun k hk e => by have := (h.way.lt k hk).1; omega)
  have hcy := ho.owns h.cyc (fun k hk e => by have := (h.cyc.lt k hk).1; omega)
  have hr := h.rows.only ho (fun g hg e => by have := (h.rows.lt g hg).1; omega)
  exact { h with meet := hm, pass := hp, got := ho.row h.got (by omega), place := ho.row h.place (by omega), way := hw, cyc := hcy, rows := hr }
/-- One more on the way. -/
theorem CI.push (h : CI W0 g0 gb go gp ia ic is wa wc ws W D P G L at' wl vw cs gs vc) {x : Nat} (hx : x < is.length) (hn : x ∉ wl) (hway : Way is.length (pts is (ws.map Wl.l) D) D at' (wl ++ [x])) {w1 w2 : World} {v2 : Value}
    (hb : Below W.heap.size W w1) (ho : w2.ownsRow (g0 + 5) 3 1 v2 (wl ++ [x]).length (vN (wl ++ [x]))) (hg : w1.grownBy w2 vw.ownBlock) (hl : v2.ownBlock = vw.ownBlock ∨ v2.ownBlock = some w1.heap.size)
    (hp : Put w2 (g0 + 4) (.cells (tabI is.length (upd L x ((wl.length + 1 : Nat) : Int))) 3 (0, 0)) W') : CI W0 g0 gb go gp ia ic is wa wc ws W' D P G (upd L x ((wl.length + 1 : Nat) : Int)) at' (wl ++ [x]) v2 cs gs vc := by
  have hsz := h.size
  have hO : Only (fun k => vw.ownBlock = some k ∨ k = g0 + 4) W W' := by
    refine ((Only.of_below (S := fun k => vw.ownBlock = some k ∨ k = g0 + 4) hb).trans (Only.of_grown (S := fun k => vw.ownBlock = some k) hg (fun k hk => hk)) (fun n hn => .inl (.inl hn))).trans hp.only (fun n hn => .inl (.inr hn))
  have hwlt : ∀ k, vw.ownBlock = some k → g0 + 5 ≤ k := fun k hk => (h.way.lt k hk).1
  have hS : ∀ k, k < g0 + 4 → ¬ (vw.ownBlock = some k ∨ k = g0 + 4) := fun k hk e => by
    rcases e with e | e
    · have := hwlt k e; omega
    · omega
  have hlo := h.lo
  have hcy : ∀ k, vc.ownBlock = some k → ¬ (vw.ownBlock = some k ∨ k = g0 + 4) := fun k hk e => by
    rcases e with e | e
    · rcases owns_apart' h.cyc h.way (by decide) with e2 | e2
      · rw [e2] at hk; cases hk
      · exact e2 (by rw [hk, e])
    · have := (h.cyc.lt k hk).1; omega
  have hgs : ∀ g ∈ gs, ¬ (vw.ownBlock = some g.1 ∨ g.1 = g0 + 4) := fun g hg e => by
    rcases e with e | e
    · exact h.apart _ e g hg rfl
    · have := (h.rows.lt g hg).1; omega
  refine { h with meet := h.meet.only hO (fun k e => ?_) (hS _ (by omega)) (hS _ (by omega)) (hS _ (by omega)) (hS _ (by omega)), got := hO.row h.got (hS _ (by omega)), place := hp.at', way := ?_, cyc := hO.owns h.cyc hcy, rows := h.rows.only hO hgs, apart := ?_, wayOk := hway, placeOk := ?_ }
  · rcases e with e | e
    · have := hwlt k e; omega
    · omega
  · refine ho.kept hp.grown ?_
    cases hv : v2.ownBlock with
    | none => exact .inl rfl
    | some k =>
      refine .inr ?_
      intro e
      injection e with e
      have := (ho.lt k hv).1
      omega
  · intro y hy g hg'
    rcases hl with e | e
    · exact h.apart y (e ▸ hy) g hg'
    · rw [e] at hy
      injection hy with hy
      have := (h.rows.lt g hg').2
      have := hb.size
      omega
  · constructor
    · intro k hk
      by_cases e : k < wl.length
      · have e1 : (wl ++ [x]).getD k 0 = wl.getD k 0 := by simp [List.getD_eq_getElem?_getD, List.getElem?_append_left e]
        rw [e1, upd_other _ _ (fun e2 => hn (by rw [← e2]; exact getD_mem e))]
        exact h.placeOk.1 k e
      · have e2 : k = wl.length := by simp at hk; omega
        subst e2
        have e1 : (wl ++ [x]).getD wl.length 0 = x := by simp [List.getD_eq_getElem?_getD]
        rw [e1, upd_same]
    · intro i hi hni
      have h1 : i ≠ x := fun e => hni (by simp [e])
      have h2 : i ∉ wl := fun e => hni (by simp [e])
      rw [upd_other _ _ h1]
      exact h.placeOk.2 i hi h2
end Go.Proofs.Ytpikmcapnmdmbaa
