/-
  Layer 22: rows beside rows, and what Clear hands back as a row of rows.
-/
import Derived.Test.YtpikmcapnmdmbaaPf
import Derived.Test.YtpikmcapnmdmbaaWq
import Derived.Test.YtpikmcapnmdmbaaWm
import Derived.Test.YtpikmcapnmdmbaaWo
namespace Go.Proofs.Ytpikmcapnmdmbaa
open Go.RowKit Go.K Go.Maps
set_option linter.unusedVariables false
set_option linter.unusedSimpArgs false
theorem owns_other {W W' : World} {B B' s s' n n' : Nat} {t t' : TypeId} {v v' : Value} {xs xs' : List Value} (h : W.ownsRow B t s v n xs) (ho : W.ownsRow B' t' s' v' n' xs') (hg : W.grownBy W' v'.ownBlock) (hne : t ≠ t') : W'.ownsRow B t s v n xs :=
  h.kept hg (by
    rcases h.2 with ⟨rfl, _⟩ | ⟨g1, cap1, cur1, rfl, _, hr1, _⟩
    · exact .inl rfl
    · refine .inr (fun e => ?_)
      rcases ho.2 with ⟨rfl, _⟩ | ⟨g2, cap2, cur2, rfl, _, hr2, _⟩
      · cases e
      · injection e with e2
        have e3 : g1 = g2 := e2
        subst e3
        rw [hr1] at hr2
        injection hr2 with e4
        injection e4 with _ e5
        exact hne e5)
theorem sl_owns {w : World} {base : Nat} {e : TypeId} {size n : Nat} {ad : Option Addr} {cap : Nat} {xs : List Value} (h : w.ownsRow base e size (.slice ad n cap) n xs) : Sl w ad xs := by
  obtain ⟨_, _, hv, _, hs, _⟩ := owns_slice h
  injection hv with h1
  rw [h1]; exact hs
theorem cyV_get {cs : List (List Nat)} {gs : List (Nat × Nat)} (h : gs.length = cs.length) (t : Nat) (ht : t < cs.length) : ∃ g k, (cyV cs gs)[t]? = some (.slice (some ⟨g, 0, none⟩) cs[t].length k) ∧ ∃ h' : t < gs.length, gs[t] = (g, k) := by
  have h' : t < gs.length := by omega
  refine ⟨gs[t].1, gs[t].2, ?_, h', rfl⟩
  unfold cyV
  rw [List.getElem?_zipWith, List.getElem?_eq_getElem ht, List.getElem?_eq_getElem h']
/-- One of the lists that Clear hands back. -/
theorem cyc_at {B : Nat} {W : World} {cs : List (List Nat)} {gs : List (Nat × Nat)} {a : Option Addr} {c : Nat} (ho : W.ownsRow B 22 1 (.slice a cs.length c) cs.length (cyV cs gs)) (hc : CycS B W cs gs) (t : Nat) (ht : t < cs.length) :
    ∃ ga g k, a = some ⟨ga, 0, none⟩ ∧ W.cell? ⟨ga, t, none⟩ = some (.slice (some ⟨g, 0, none⟩) cs[t].length k) ∧ ∀ j (hj : j < cs[t].length), W.cell? ⟨g, j, none⟩ = some (.int .i64 ((cs[t].getD j 0 : Nat) : Int)) := by
  obtain ⟨ad, cap, hv, _, _, hs, _⟩ := owns_len ho
  injection hv with h1
  obtain ⟨ga, hga⟩ := hs (by omega)
  rw [h1, hga] at ho
  obtain ⟨g, k, e1, h', e2⟩ := cyV_get hc.len t ht
  refine ⟨ga, g, k, h1.trans hga, owns_cell ho t e1, fun j hj => ?_⟩
  have hr := hc.row t ht h'
  rw [e2] at hr
  exact owns_cell hr j (vN_get cs[t] j hj)
theorem Turn.nodup {is : List Int} {o : List Nat} (h : Turn is.length o) (hn : is.Nodup) : (o.map (is.getD · 0)).Nodup := by
  refine List.Pairwise.map _ ?_ (List.Pairwise.and_mem.1 h.nd)
  intro a b hab e
  exact hab.2.2 (nodup_getD hn (h.lt a hab.1) (h.lt b hab.2.1) e)
theorem Turn.meet {is : List Int} {o : List Nat} {m : Nat} (h : Turn is.length o) (hm : MeetP is m) : MeetP (o.map (is.getD · 0)) m := by
  refine ⟨by rw [List.length_map, h.len]; exact hm.1, h.nodup hm.2.1, fun x hx => ?_⟩
  obtain ⟨a, ha, rfl⟩ := List.mem_map.1 hx
  have hl := h.lt a ha
  show 1 ≤ is.getD a 0
  rw [List.getD_eq_getElem?_getD, List.getElem?_eq_getElem hl]
  exact hm.2.2 _ (List.getElem_mem hl)
theorem take_map_succ {α : Type} (f : Nat → α) (o : List Nat) (q : Nat) (hq : q < o.length) : (o.take (q + 1)).map f = (o.take q).map f ++ [f (o.getD q 0)] := by
  rw [List.take_succ_eq_append_getElem hq, List.map_append, List.getD_eq_getElem?_getD, List.getElem?_eq_getElem hq]; rfl
def pkI (is : List Int) (o : List Nat) (q : Nat) : List Int := (o.take q).map (is.getD · 0)
def pkW (ws : List (List Int)) (o : List Nat) (q : Nat) : List (List Int) := (o.take q).map (ws.getD · [])
theorem pkI_succ (is : List Int) (o : List Nat) (q : Nat) (hq : q < o.length) : pkI is o (q + 1) = pkI is o q ++ [is.getD (o.getD q 0) 0] := take_map_succ (is.getD · 0) o q hq
theorem pkW_succ (ws : List (List Int)) (o : List Nat) (q : Nat) (hq : q < o.length) : pkW ws o (q + 1) = pkW ws o q ++ [ws.getD (o.getD q 0) []] := take_map_succ (ws.getD · []) o q hq
def sumT (cs : List (List Nat)) (t : Nat) : Nat := ((cs.take t).map List.length).sum
theorem sumT_zero (cs : List (List Nat)) : sumT cs 0 = 0 := rfl
theorem sumT_succ (cs : List (List Nat)) (t : Nat) (ht : t < cs.length) : sumT cs (t + 1) = sumT cs t + cs[t].length := by
  unfold sumT
  rw [List.take_succ_eq_append_getElem ht, List.map_append, List.sum_append]
  simp
theorem sumT_all (cs : List (List Nat)) : sumT cs cs.length = (cs.map List.length).sum := by unfold sumT; rw [List.take_length]
theorem sumT_le (cs : List (List Nat)) (t : Nat) : sumT cs t ≤ (cs.map List.length).sum := by
  unfold sumT
  conv => rhs; rw [← List.take_append_drop t cs, List.map_append, List.sum_append]
  omega
theorem vN_range_succ (k : Nat) : vN (List.range (k + 1)) = vN (List.range k) ++ vN [k] := by
  rw [List.range_succ, vN_append]
end Go.Proofs.Ytpikmcapnmdmbaa
