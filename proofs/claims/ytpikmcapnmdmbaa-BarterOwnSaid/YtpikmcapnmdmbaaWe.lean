/-
  Layer 22: Clear: a cycle found.
-/
import Derived.Test.YtpikmcapnmdmbaaWd
namespace Go.Proofs.Ytpikmcapnmdmbaa
open Go.RowKit Go.K Go.Maps
set_option linter.unusedVariables false
set_option linter.unusedSimpArgs false
theorem Only.put {S : Nat → Prop} {w W W' : World} {g : Nat} {o : Obj} (h : Only S w W) (hp : Put W g o W') (hS : S g) : Only S w W' := h.trans hp.only (fun n hn => .inl (hn ▸ hS))
/-- The cells of gone, got and place in the midst of a cycle. -/
def gotF (G : Nat → Int) (is : List Int) (c : List Nat) (k : Nat) : Nat → Int
  := match k with
  | 0 => G
  | k + 1 => upd (gotF G is c k) (c.getD k 0) (is.getD (c.getD ((k + 1) % c.length) 0) 0)
def goneF (D : Nat → Bool) (c : List Nat) (k : Nat) : Nat → Bool
  := match k with
  | 0 => D
  | k + 1 => upd (goneF D c k) (c.getD k 0) true
def plF (L : Nat → Int) (l : List Nat) (k : Nat) : Nat → Int
  := match k with
  | 0 => L
  | k + 1 => upd (plF L l k) (l.getD k 0) 0
theorem take_getD {l : List Nat} {k : Nat} (h : k < l.length) : l.take (k + 1) = l.take k ++ [l.getD k 0] := by
  rw [List.take_succ_eq_append_getElem h, List.getD_eq_getElem?_getD, List.getElem?_eq_getElem h]; rfl
theorem goneF_eq (D : Nat → Bool) (c : List Nat) : ∀ k, k ≤ c.length → goneF D c k = gadd D (c.take k)
  | 0, _ => by funext i; simp [goneF, gadd]
  | k + 1, h => by
    funext i
    rw [goneF, goneF_eq D c k (by omega), take_getD h]
    unfold upd gadd
    by_cases e : i = c.getD k 0
    · rw [if_pos e]; subst e; simp
    · rw [if_neg e]
      have : i ∈ c.take k ++ [c.getD k 0] ↔ i ∈ c.take k := by
        rw [List.mem_append, List.mem_singleton]; exact ⟨fun h => h.elim id (fun h => absurd h e), .inl⟩
      rw [decide_eq_decide.2 this]
theorem plF_zero {n : Nat} {l : List Nat} {L : Nat → Int} (h : ∀ i, i < n → i ∉ l → L i = 0) : ∀ i, i < n → plF L l l.length i = 0 := by
  have : ∀ k, k ≤ l.length → ∀ i, (i ∈ l.take k → plF L l k i = 0) ∧ (i ∉ l.take k → plF L l k i = L i) := by
    intro k
    induction k with
    | zero => intro _ i; exact ⟨fun h => by simp at h, fun _ => rfl⟩
    | succ k ih =>
      intro hk i
      have hi := ih (by omega) i
      rw [take_getD hk, List.mem_append, List.mem_singleton, plF]
      by_cases e : i = l.getD k 0
      · rw [e, upd_same]
        exact ⟨fun _ => rfl, fun h => absurd (.inr rfl) h⟩
      · rw [upd_other _ _ e]
        exact ⟨fun h => hi.1 (h.elim id (fun h => absurd h e)), fun h => hi.2 (fun h' => h (.inl h'))⟩
  intro i hi
  by_cases hm : i ∈ l
  · exact (this l.length (Nat.le_refl _) i).1 (by rwa [List.take_length])
  · rw [(this l.length (Nat.le_refl _) i).2 (by rwa [List.take_length])]
    exact h i hi hm
theorem gotF_in (G : Nat → Int) (is : List Int) {c : List Nat} (hn : c.Nodup) : ∀ k, k ≤ c.length → ∀ j, j < k → gotF G is c k (c.getD j 0) = is.getD (c.getD ((j + 1) % c.length) 0) 0
  | 0, _, j, h => by omega
  | k + 1, hk, j, h => by
    rw [gotF]
    by_cases e : j = k
    · subst e; exact upd_same _ _ _
    · rw [upd_other _ _ (fun e2 => e (getD_inj hn (by omega) (by omega) e2))]
      exact gotF_in G is hn k (by omega) j (by omega)
theorem gotF_out (G : Nat → Int) (is : List Int) {c : List Nat} {i : Nat} (hi : i ∉ c) : ∀ k, k ≤ c.length → gotF G is c k i = G i
  | 0, _ => rfl
  | k + 1, hk => by
    rw [gotF, upd_other _ _ (fun e => hi (by rw [e]; exact getD_mem (by omega)))]
    exact gotF_out G is hi k (by omega)
theorem RunTo.gone {n : Nat} {F : (Nat → Bool) → Nat → Nat} {cs : List (List Nat)} {D : Nat → Bool} (h : RunTo n F cs D) : ∀ c ∈ cs, ∀ i ∈ c, D i = true := by
  induction h with
  | nil => intro c hc; cases hc
  | snoc h1 h2 ih =>
    intro c hc i hi
    rcases List.mem_append.1 hc with e | e
    · exact gadd_true.2 (.inl (ih c e i hi))
    · rw [List.mem_singleton.1 e] at hi
      exact gadd_true.2 (.inr hi)
theorem gadd_rot (D : Nat → Bool) (c : List Nat) (j : Nat) : gadd D (rot j c) = gadd D c := by
  funext i
  unfold gadd
  rw [decide_eq_decide.2 rot_mem]
variable {W0 : World} {g0 gb go gp : Nat} {ia : Option Addr} {ic : Nat} {is : List Int} {wa : Option Addr} {wc : Nat} {ws : List Wl} {W W1 W2 W' : World} {D : Nat → Bool} {P : Nat → Nat} {G L : Nat → Int} {at' : Nat} {wl : List Nat} {vw : Value} {cs : List (List Nat)} {gs : List (Nat × Nat)} {vc : Value}
/-- A cycle is taken out. -/
theorem CI.cycle (h : CI W0 g0 gb go gp ia ic is wa wc ws W D P G L at' wl vw cs gs vc) {p j : Nat} (hp : p < wl.length) (hx : pts is (ws.map Wl.l) D (wl.getD (wl.length - 1) 0) = wl.getD p 0) (hj : j < (wl.drop p).length)
    (hm : ∀ i ∈ wl.drop p, (wl.drop p).getD j 0 ≤ i)
    (h1 : Only (fun k => k = g0 + 3 ∨ k = go ∨ k = g0 + 4) W W1) (hgot : W1.heap[g0 + 3]? = some (.cells (tabI is.length (gotF G is (wl.drop p) (wl.drop p).length)) 3 (0, 0))) (hgone : W1.heap[go]? = some (.cells (tabB is.length (goneF D (wl.drop p) (wl.drop p).length)) 4 (0, 0)))
    (hpl : W1.heap[g0 + 4]? = some (.cells (tabI is.length (plF L wl wl.length)) 3 (0, 0)))
    (h2 : Below W1.heap.size W1 W2) {q k : Nat} (hq : W2.ownsRow W1.heap.size 3 1 (.slice (some ⟨q, 0, none⟩) (wl.drop p).length k) (wl.drop p).length (vN (rot j (wl.drop p)))) {vc' : Value} {gw cw : Nat} (hvw : vw = .slice (some ⟨gw, 0, none⟩) wl.length cw)
    {W3 : World} (h3 : Below W2.heap.size W2 W3) (h4 : W3.grownBy W' vc.ownBlock) (hc : W'.ownsRow (g0 + 5) 22 1 vc' (cs.length + 1) (cyV cs gs ++ [.slice (some ⟨q, 0, none⟩) (wl.drop p).length k])) :
    CI W0 g0 gb go gp ia ic is wa wc ws W' (gadd D (rot j (wl.drop p))) P (gotF G is (wl.drop p) (wl.drop p).length) (plF L wl wl.length) at' [] (.slice (some ⟨gw, 0, none⟩) 0 cw) (cs ++ [rot j (wl.drop p)]) (gs ++ [(q, k)]) vc' := by
  have hlo := h.lo
  have hsz := h.size
  have hring := h.wayOk.ring hp hx
  have hcyc := h.wayOk.cyc hp hx h.done hj hm
  have hrl := rot_length hj
  have hD : goneF D (wl.drop p) (wl.drop p).length = gadd D (rot j (wl.drop p)) := by rw [goneF_eq _ _ _ (Nat.le_refl _), List.take_length, gadd_rot]
  have hs1 := h1.size
  have hs2 := h2.size
  have hs3 := h3.size
  have hs4 := h4.size
  have hvc : ∀ x, vc.ownBlock = some x → g0 + 5 ≤ x ∧ x < W.heap.size := fun x hx => h.cyc.lt x hx
  have hO : Only (fun k => k = g0 + 3 ∨ k = go ∨ k = g0 + 4 ∨ vc.ownBlock = some k) W W' := by
    have a1 : Only (fun k => k = g0 + 3 ∨ k = go ∨ k = g0 + 4 ∨ vc.ownBlock = some k) W W1 := h1.mono (fun k hk => by rcases hk with e | e | e <;> simp [e])
    have a2 := a1.trans (Only.of_below (S := fun k => k = g0 + 3 ∨ k = go ∨ k = g0 + 4 ∨ vc.ownBlock = some k) h2) (fun n hn => .inl hn)
    have a3 := a2.trans (Only.of_below (S := fun k => k = g0 + 3 ∨ k = go ∨ k = g0 + 4 ∨ vc.ownBlock = some k) h3) (fun n hn => .inl hn)
    exact a3.trans (Only.of_grown (S := fun k => k = g0 + 3 ∨ k = go ∨ k = g0 + 4 ∨ vc.ownBlock = some k) h4 (fun k hk => .inr (.inr (.inr hk)))) (fun n hn => .inl hn)
  -- what lay in W1 and was turned by then
  have hP : Only (fun k => vc.ownBlock = some k) W1 W' :=
    ((Only.of_below (S := fun k => vc.ownBlock = some k) h2).trans (Only.of_below (S := fun k => vc.ownBlock = some k) h3) (fun n hn => .inl hn)).trans (Only.of_grown (S := fun k => vc.ownBlock = some k) h4 (fun k hk => hk)) (fun n hn => .inl hn)
  have hPn : ∀ k, k < g0 + 5 → ¬ vc.ownBlock = some k := fun k hk e => by have := (hvc k e).1; omega
  have hSn : ∀ k, k < g0 + 5 → k ≠ g0 + 3 → k ≠ go → k ≠ g0 + 4 → ¬ (k = g0 + 3 ∨ k = go ∨ k = g0 + 4 ∨ vc.ownBlock = some k) := fun k hk e1 e2 e3 e => by
    rcases e with e | e | e | e
    · exact e1 e
    · exact e2 e
    · exact e3 e
    · exact hPn k hk e
  have hne : ∀ g ∈ gs, ¬ (g.1 = g0 + 3 ∨ g.1 = go ∨ g.1 = g0 + 4 ∨ vc.ownBlock = some g.1) := fun g hg e => by
    have hl := (h.rows.lt g hg).1
    obtain ⟨t, ht, rfl⟩ := List.mem_iff_getElem.1 hg
    rcases e with e | e | e | e
    · omega
    · omega
    · omega
    · rcases owns_apart' h.cyc (h.rows.row t (by have := h.rows.len; omega) ht) (by decide) with e2 | e2
      · rw [e2] at e; cases e
      · exact e2 e
  have hwy : ∀ k, vw.ownBlock = some k → ¬ (k = g0 + 3 ∨ k = go ∨ k = g0 + 4 ∨ vc.ownBlock = some k) := fun k hk e => by
    have hl := (h.way.lt k hk).1
    rcases e with e | e | e | e
    · omega
    · omega
    · omega
    · rcases owns_apart' h.cyc h.way (by decide) with e2 | e2
      · rw [e2] at e; cases e
      · exact e2 (by rw [e, hk])
  have hway := hO.owns h.way hwy
  have hq' : W'.ownsRow (g0 + 5) 3 1 (.slice (some ⟨q, 0, none⟩) (rot j (wl.drop p)).length k) (rot j (wl.drop p)).length (vN (rot j (wl.drop p))) := by
    rw [hrl]
    have b1 := owns_below (B := 0) hq h3
    have b2 : W'.ownsRow W1.heap.size 3 1 (.slice (some ⟨q, 0, none⟩) (wl.drop p).length k) (wl.drop p).length (vN (rot j (wl.drop p))) := b1.kept h4 (.inr (fun e => by
      have e1 := (hq.lt q rfl).1
      have e2 := (hvc q e.symm).2
      omega))
    exact owns_base b2 (by omega)
  have hgq : ∀ x ∈ gs, x.1 < q := fun x hx => by
    have e1 := (hq.lt q rfl).1
    have e2 := (h.rows.lt x hx).2
    omega
  refine { lo := hlo, meet := ?_, pass := h.pass.gadd _, got := hP.row hgot (hPn _ (by omega)), place := hP.row hpl (hPn _ (by omega)), way := ?_, cyc := ?_, rows := (h.rows.only hO hne).snoc hq' hgq, apart := ?_, run := h.run.snoc hcyc, gotOk := ?_, wayOk := Way.nil _ _ _ _, placeOk := ⟨fun k hk => absurd hk (Nat.not_lt_zero k), fun i hi _ => plF_zero h.placeOk.2 i hi⟩, le := h.le, done := fun i hi => gadd_true.2 (.inl (h.done i hi)) }
  · refine h.meet.gone' hO (fun k e => ?_) (hSn _ (by omega) (by omega) (by omega) (by omega)) (hSn _ (by omega) (by omega) (by omega) (by omega)) (hSn _ (by omega) (by omega) (by omega) (by omega)) ?_
    · rcases e with e | e | e | e
      · omega
      · omega
      · omega
      · have := (hvc k e).1; omega
    · rw [← hD]; exact hP.row hgone (hPn _ (by omega))
  · subst hvw
    rcases hway.2 with ⟨e, _⟩ | ⟨g', cap', cur, e, hg1, hr1, hle, hcm, hsz1, htk⟩
    · cases e
    · injection e with e1 e2 e3
      injection e1 with e1
      injection e1 with e1
      subst e1 e3
      exact ⟨rfl, .inr ⟨gw, cw, cur, rfl, hg1, hr1, Nat.zero_le _, hcm, hsz1, by simp [vN]⟩⟩
  · rw [cyV_snoc h.rows.len, hrl, List.length_append, List.length_singleton]; exact hc
  · intro y hy g hg
    injection hy with hy
    subst hvw
    rcases List.mem_append.1 hg with e | e
    · exact h.apart y (by rw [← hy]; rfl) g e
    · rw [List.mem_singleton.1 e]
      intro e2
      have e3 := (hq.lt q rfl).1
      have e4 := (h.way.lt gw rfl).2
      have e5 : gw = y := hy
      have e6 : q = y := e2
      omega
  · intro c hc k hk
    rcases List.mem_append.1 hc with e | e
    · have hmem := getD_mem hk
      have hdead := h.run.gone c e _ hmem
      rw [gotF_out G is (fun hin => by have := hring.left _ hin; rw [hdead] at this; cases this) _ (Nat.le_refl _)]
      exact h.gotOk c e k hk
    · rw [List.mem_singleton.1 e] at hk ⊢
      rw [hrl] at hk ⊢
      have hp0 := hring.pos
      have h5 : (j + k) % (wl.drop p).length < (wl.drop p).length := Nat.mod_lt _ hp0
      have h6 : (k + 1) % (wl.drop p).length < (wl.drop p).length := Nat.mod_lt _ hp0
      rw [rot_get hj k hk, gotF_in G is hring.nd _ (Nat.le_refl _) _ h5, rot_get hj _ h6]
      congr 2
      rw [Nat.mod_add_mod, Nat.add_mod_mod]
      congr 1
end Go.Proofs.Ytpikmcapnmdmbaa
