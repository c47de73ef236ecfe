/-
  Layer 22: lists lent and Clear of them, as a law's walk meets them; one wish told otherwise.
-/
import Derived.Test.YtpikmcapnmdmbaaPe
import Derived.Test.YtpikmcapnmdmbaaWi
import Derived.Test.YtpikmcapnmdmbaaWf
namespace Go.Proofs.Ytpikmcapnmdmbaa
open Go.RowKit Go.K Go.Maps
set_option linter.unusedVariables false
set_option linter.unusedSimpArgs false
theorem getD_at (l : List Int) (i : Nat) (h : i < l.length) : l[i] = l.getD i 0 := by
  rw [List.getD_eq_getElem?_getD, List.getElem?_eq_getElem h]; rfl
theorem ws_getD (ws : List Wl) (i : Nat) (h : i < ws.length) : (ws.map Wl.l).getD i [] = ws[i].l := by
  rw [List.getD_eq_getElem?_getD, List.getElem?_map, List.getElem?_eq_getElem h]; rfl
theorem lent_any2 (a : Option Addr) (c : Nat) (l : List Int) (w : World) (hl : l.length ≤ 1000000) (hs : Sl w a (vI l)) (hn : a = none → l.length = 0 ∧ c = 0) (hw : Wf l) :
    Calls Try.prog 13 #[.slice a l.length c] w fun r w' => ∃ ya yc, r = .returned (.slice ya l.length yc) ∧ LentL w.heap.size w' ⟨ya, yc, l⟩ ∧ Below w.heap.size w w' := by
  refine (lent_any a c l w hl hs hn hw).mono ?_
  rintro r w' ⟨⟨ya, yc, yl⟩, rfl, hyl, hL, hb⟩
  have e : yl = l := hyl
  subst e
  exact ⟨ya, yc, rfl, hL, hb⟩
theorem clear_ans {ia : Option Addr} {ic : Nat} {is : List Int} {wa : Option Addr} {wc m : Nat} {ws : List Wl} {w : World} (hl1 : is.length ≤ 1000000) (hs : Sl w ia (vI is)) (hw : Wf is) (hws : WsOk w wa ws) (hm : ws.length = m) :
    Calls Try.prog 12 #[.slice ia is.length ic, .slice wa m wc] w fun r w' => ∃ s3 s4 s5, r = .returned (.tuple #[s3, s4, s5]) ∧ ClearAns is ws w (.returned (.tuple #[s3, s4, s5])) w' := by
  subst hm
  refine (clear_any ia ic is wa wc ws w hl1 hs hw hws).mono ?_
  rintro r w' ⟨h | ⟨hm, cs, gs, D, g, G, vc, B, rfl, h⟩, hb⟩
  · obtain ⟨rfl, hn⟩ := h
    exact ⟨_, _, _, rfl, .inl ⟨rfl, hn⟩, hb⟩
  · exact ⟨_, _, _, rfl, .inr ⟨hm, cs, gs, D, g, G, vc, B, rfl, h⟩, hb⟩
theorem total_le {ws : List Wl} : ∀ x ∈ ws, x.l.length ≤ total ws := by
  intro x hx
  unfold total
  induction ws with
  | nil => cases hx
  | cons a ws ih =>
    rw [List.map_cons, List.sum_cons]
    rcases List.mem_cons.1 hx with e | e
    · subst e; omega
    · have := ih e; omega
theorem rnd_ltq (k : Int) {n : Nat} (hn : 0 < n) : rnd k n < n := by
  have e0 := Int.emod_nonneg k (show (n : Int) ≠ 0 by omega)
  have e1 := Int.emod_lt_of_pos k (show (0 : Int) < n by omega)
  have e2 : ((rnd k n : Nat) : Int) = k % n := Int.toNat_of_nonneg e0
  omega
/-- One list of a list of lists that were lent is set anew. -/
theorem LentW.set {B B' : Nat} {W : World} {a : Option Addr} {c : Nat} {ms : List Wl} (h : LentW B W a c ms) {i : Nat} {y : Wl} (hi : i < ms.length) (hy : LentL B' W y) :
    ∃ g cur, a = some ⟨g, 0, none⟩ ∧ B ≤ g ∧ W.heap[g]? = some (.cells cur 22 (0, 0)) ∧ i + 1 ≤ cur.size ∧ ms.length ≤ c ∧
      ∀ W', Put W g (.cells (cur.toList.take i ++ [y.v] ++ cur.toList.drop (i + 1)).toArray 22 (0, 0)) W' → WsOk W' a (ms.set i y) := by
  obtain ⟨gm, hr, _⟩ := h.row
  obtain ⟨g, cap, cur, hv, hB, hrow, hle, _, hsz, htk⟩ := owns_cases hr (by omega)
  injection hv with e1 e2 e3
  subst e1 e3
  simp only [Nat.mul_one] at htk hsz
  have hcur : ∀ q (hq : q < ms.length), cur.toList[q]? = some ms[q].v := fun q hq => by
    have h1 : (cur.toList.take (ms.length + 1))[q]? = some ms[q].v := by
      rw [htk, List.getElem?_append_left (by rw [wV_length]; exact hq), wV_get _ _ hq]
    rwa [List.getElem?_take, if_pos (by omega)] at h1
  have hcl : cur.toList.length = cur.size := by simp
  refine ⟨g, cur, rfl, hB, hrow, by omega, by omega, fun W' hp => ⟨?_, ?_⟩⟩
  · intro _
    refine ⟨g, 0, rfl, fun q hq => ?_⟩
    rw [wV_length, List.length_set] at hq
    rw [cell_of_row _ _ _ _ _ _ hp.at', wV_get _ _ (by rw [List.length_set]; exact hq)]
    simp only [Nat.zero_add]
    rw [List.getElem?_toArray]
    by_cases hqi : q = i
    · subst hqi
      rw [List.getElem?_append_left (by simp; omega), List.getElem?_append_right (by simp; omega)]
      simp [show min q cur.size = q by omega]
    · rw [List.getElem_set_ne (fun e => hqi e.symm)]
      by_cases hlt : q < i
      · rw [List.append_assoc, List.getElem?_append_left (by simp; omega), List.getElem?_take, if_pos hlt]
        exact hcur q hq
      · rw [List.getElem?_append_right (by simp; omega), List.getElem?_drop]
        rw [show i + 1 + (q - (List.take i cur.toList ++ [y.v]).length) = q by simp; omega]
        exact hcur q hq
  · intro x hx
    have hne : ∀ {B2 : Nat} {z : Wl}, LentL B2 W z → LentL B2 W' z := fun hz => hz.grown hr hp.grown (by decide)
    rcases List.mem_or_eq_of_mem_set hx with e | e
    · exact (hne (h.each x e)).ok
    · subst e; exact (hne hy).ok
/-- True is best: of two complete runs that differ in one list of wishes alone. -/
theorem honest {is : List Int} {ws ws' : List (List Int)} {cs csf : List (List Nat)} {D Df : Nat → Bool} {G G' : Nat → Int} (hn : is.Nodup)
    (h1 : RunTo is.length (pts is ws) cs D) (ha : ∀ i, i < is.length → D i = true) (hg : GotOk is cs G)
    (h2 : RunTo is.length (pts is ws') csf Df) (ha2 : ∀ i, i < is.length → Df i = true) (hg2 : GotOk is csf G') (who : Nat) (hw : who < is.length) (hag : ∀ j, j ≠ who → ws'.getD j [] = ws.getD j []) :
    decide (plc is (ord is (ws.getD who []) who) (G' who) < plc is (ord is (ws.getD who []) who) (G who)) = false := by
  have a1 := ans_of h1 ha hn hg
  have a2 := ans_of h2 ha2 hn hg2
  have := true_plain hn h1 h2 ha2 h1.next h2.next (inj_of h2 ha2 h2.next) who hag (ha who hw)
  refine decide_eq_false ?_
  rw [a1.got who hw, a2.got who hw, plc_idx hn (ord_lt hw) (a1.lt who hw), plc_idx hn (ord_lt hw) (a2.lt who hw)]
  omega
end Go.Proofs.Ytpikmcapnmdmbaa
