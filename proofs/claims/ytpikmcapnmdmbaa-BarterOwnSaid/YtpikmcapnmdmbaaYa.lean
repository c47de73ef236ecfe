/-
  Layer 22: lists, lists of lists, an Aside that came in, opened.
-/
import Derived.Test.YtpikmcapnmdmbaaWn
import Derived.Test.YtpikmcapnmdmbaaGen
namespace Go.Proofs.Ytpikmcapnmdmbaa
open Go.ChangeShapes Go.WideShapes Go.ChangeAt Go.RowKit Go.K
set_option linter.unusedVariables false
set_option linter.unusedSimpArgs false
theorem list_of_all {α : Type} {P : Nat → α → Prop} : ∀ (n : Nat), (∀ i, i < n → ∃ a, P i a) → ∃ l : List α, l.length = n ∧ ∀ i (h : i < l.length), P i l[i]
  | 0, _ => ⟨[], rfl, fun i h => by cases h⟩
  | n + 1, h => by
    obtain ⟨l, hl, hp⟩ := list_of_all n (fun i hi => h i (by omega))
    obtain ⟨a, ha⟩ := h n (by omega)
    refine ⟨l ++ [a], by simp [hl], fun i hi => ?_⟩
    by_cases h1 : i < l.length
    · rw [List.getElem_append_left h1]; exact hp i h1
    · have : i = l.length := by simp at hi; omega
      subst this
      rw [List.getElem_append_right (Nat.le_refl _)]
      simp only [Nat.sub_self, List.getElem_cons_zero]
      rw [hl]; exact ha
/-- A list, out of its cell. -/
theorem wl_of_trod {H : Type} {enc : TypeId × Value → H} {W : World} {n : Nat} {v : Value} {y : DataW H × List MemPlace}
    (h : DataW.trod enc Try.prog W 0 (fun _ => true) true n 22 [v] = some y) (hw : ∀ q ∈ y.1.weights Try.prog 22, q ≤ reachBytes) : ∃ x : Wl, v = x.v ∧ WlOk W x := by
  rcases open_ints Try.underlying22 Try.underlying3 (by kernel_rfl) h with ⟨hcs, hx⟩ | ⟨x, len, cap, zs, hcs, _, hl, hm, hz, hx, hcell, hwz⟩
  · simp at hcs
    subst hcs
    exact ⟨⟨none, 0, []⟩, rfl, ⟨Sl.nil _ _, Nat.le_refl _, Nat.zero_le _, fun _ => ⟨rfl, rfl⟩, fun x hx => by cases hx⟩⟩
  · simp at hcs
    subst hcs
    simp only [if_true] at hz
    have hlen : (zs.take len).length = len := by simp; omega
    have hb : cap * 8 ≤ reachBytes := by
      have hy4 : y.1 = .slice (lits .i64 (zs.take len)) (lits .i64 (zs.drop len)) := by rw [hx]
      have h9 : ((lits (H := H) IntKind.i64 (zs.take len)).length + (lits (H := H) IntKind.i64 (zs.drop len)).length) * Try.prog.bytesOf 3 ≤ reachBytes := by
        refine hw _ ?_
        rw [hy4, DataW.weights, Try.underlying22]
        exact List.mem_cons_self
      have h8 : Try.prog.bytesOf 3 = 8 := by kernel_rfl
      rw [h8] at h9
      simp only [lits, List.length_map, List.length_take, List.length_drop] at h9
      omega
    unfold reachBytes at hb
    refine ⟨⟨some x, cap, zs.take len⟩, ?_, ⟨?_, ?_, ?_, (fun h => by cases h), fun z hz => hwz z (List.mem_of_mem_take hz)⟩⟩
    · simp only [Wl.v, hlen]
    · intro hne
      have h0 : 0 < len := by
        rcases Nat.eq_zero_or_pos len with h' | h'
        · subst h'; exact absurd (by simp [vI]) hne
        · exact h'
      obtain ⟨b, off, spot⟩ := x
      have hspot : spot = none := by simpa [Addr.add] using World.cell?_spot (hcell 0 (by omega))
      subst hspot
      refine ⟨b, off, rfl, fun i hi => ?_⟩
      rw [vI_length, hlen] at hi
      have h1 := hcell i (by omega)
      rw [add_spot'] at h1
      rw [h1, vI_get _ _ (by rw [hlen]; exact hi)]
      simp [List.getD, List.getElem?_eq_getElem (show i < zs.length by omega)]
    · simp only [hlen]; exact hl
    · simp only [hlen]; omega
theorem wls_of_trod {H : Type} {enc : TypeId × Value → H} {W : World} {n : Nat} {v : Value} {y : DataW H × List MemPlace}
    (h : DataW.trod enc Try.prog W 0 (fun _ => true) true n 23 [v] = some y) (hw : ∀ q ∈ y.1.weights Try.prog 23, q ≤ reachBytes) :
    ∃ (a : Option Addr) (c : Nat) (ws : List Wl), v = .slice a ws.length c ∧ WsOk W a ws ∧ ws.length ≤ 17592186043904 ∧ (a = none → ws.length = 0 ∧ c = 0) := by
  rcases Go.Deep.open_slice Try.underlying23 h with ⟨hcs, hx⟩ | ⟨x, len, cap, m, k, D, Pl, hcs, _, hl, hm, hmm, hx, hel⟩
  · simp at hcs
    subst hcs
    exact ⟨none, 0, [], rfl, ⟨Sl.nil _ _, fun e he => by cases he⟩, by decide, fun _ => ⟨rfl, rfl⟩⟩
  · simp at hcs
    subst hcs
    simp only [if_true] at hmm
    subst hmm
    have hC : Try.prog.cellsOf 22 = 1 := by kernel_rfl
    rw [hC] at hel
    have hy : y.1 = .slice ((List.range len).map D) ((List.range (m - len)).map fun j => D (len + j)) := by rw [hx]
    have hin : ∀ i, i < len → ∀ q ∈ (D i).weights Try.prog 22, q ≤ reachBytes := by
      intro i hi q hq
      refine hw q ?_
      rw [hy, DataW.weights, Try.underlying23]
      exact List.mem_cons_of_mem _ (List.mem_append_left _ (weights_mem_all (List.mem_map_of_mem (List.mem_range.2 hi)) q hq))
    have hbig : len * 24 ≤ reachBytes := by
      have h9 : (((List.range len).map D).length + ((List.range (m - len)).map fun j => D (len + j)).length) * Try.prog.bytesOf 22 ≤ reachBytes := by
        refine hw _ ?_
        rw [hy, DataW.weights, Try.underlying23]
        exact List.mem_cons_self
      have h8 : Try.prog.bytesOf 22 = 24 := by kernel_rfl
      rw [h8] at h9
      simp only [List.length_map, List.length_range] at h9
      omega
    unfold reachBytes at hbig
    have hall : ∀ i, i < len → ∃ e : Wl, W.cell? (x.add (i * 1)) = some e.v ∧ WlOk W e := by
      intro i hi
      obtain ⟨cs', h1, h2⟩ := hel i (by omega)
      obtain ⟨_, hlen, hcell⟩ := World.cells?_some h1
      obtain ⟨u, rfl⟩ : ∃ u, cs' = [u] := by
        cases cs' with
        | nil => simp at hlen
        | cons u l => cases l with
          | nil => exact ⟨u, rfl⟩
          | cons u' l => simp at hlen
      obtain ⟨e, rfl, he⟩ := wl_of_trod h2 (hin i hi)
      refine ⟨e, ?_, he⟩
      have := hcell 0 (by omega)
      simpa [Addr.add] using this
    obtain ⟨es, hes, hp⟩ := list_of_all len hall
    refine ⟨some x, m, es, by rw [hes], ⟨?_, fun e he => ?_⟩, by omega, fun h => by cases h⟩
    · intro hne
      have h0 : 0 < es.length := by
        rcases es with _ | ⟨a, l⟩
        · exact absurd rfl hne
        · simp
      have hspot : x.spot = none := by
        have h1 := (hp 0 h0).1
        simpa [Addr.add] using World.cell?_spot h1
      obtain ⟨b, off, spot⟩ := x
      subst hspot
      refine ⟨b, off, rfl, fun i hi => ?_⟩
      rw [wV_length] at hi
      have h1 := (hp i hi).1
      rw [add_spot', Nat.mul_one] at h1
      rw [h1, wV_get es i hi]
    · obtain ⟨i, hi, rfl⟩ := List.getElem_of_mem he
      exact (hp i hi).2
/-- An Aside: a meet, who goes aside, whose items they pick. -/
structure Asd where
  ia : Option Addr
  ic : Nat
  is : List Int
  wa : Option Addr
  wc : Nat
  ws : List Wl
  oa : Option Addr
  oc : Nat
  who : List Int
  ea : Option Addr
  ec : Nat
  wh : List Int
def Asd.agg (x : Asd) : Value := .agg #[.slice x.ia x.is.length x.ic, .slice x.wa x.ws.length x.wc, .slice x.oa x.who.length x.oc, .slice x.ea x.wh.length x.ec]
structure AsdOk (W : World) (x : Asd) : Prop where
  i : WlOk W ⟨x.ia, x.ic, x.is⟩
  w : WsOk W x.wa x.ws
  wl : x.ws.length ≤ 17592186043904
  o : WlOk W ⟨x.oa, x.oc, x.who⟩
  e : WlOk W ⟨x.ea, x.ec, x.wh⟩
theorem open_asd {H : Type} {enc : TypeId × Value → H} {W : World} {r : Reach} {b0 : Nat} {v : Value} {d : DataW H} {p : List MemPlace} (hv : Value.okWide Try.prog W r b0 25 v)
    (h : DataW.Trod enc Try.prog W 0 (fun _ => true) true 25 v d p)
    {ts : List TypeId} {ds : List (DataW H)} (hsz : (DataW.weightsEach Try.prog ts ds).all (· ≤ reachBytes) = true) {j : Nat} (hj : ts[j]? = some 25) (hd : ds[j]? = some d) :
    ∃ c : Asd, v = c.agg ∧ AsdOk W c := by
  obtain ⟨cs, rfl, hcs⟩ := okWide_struct Try.underlying25 hv
  obtain ⟨l⟩ := cs
  obtain ⟨fuel, h⟩ := h
  obtain ⟨xs, n', _, hxx, hlen, hxl, hfl⟩ := DataW.trod_struct Try.underlying25 h
  have s25 : Try.prog.cellsOf 25 = 4 := by kernel_rfl
  have s22 : Try.prog.cellsOf 22 = 1 := by kernel_rfl
  have s23 : Try.prog.cellsOf 23 = 1 := by kernel_rfl
  have hll : l.length = 4 := by rw [s25] at hcs; simpa using hcs
  have hl : (Value.agg ⟨l⟩).cells.toList = l := rfl
  rw [hl] at hfl
  have hf0 : DataW.trod enc Try.prog W 0 (fun _ => true) true n' 22 ((l.drop 0).take (Try.prog.cellsOf 22)) = xs[0]? := hfl 0 _ rfl
  have hf1 : DataW.trod enc Try.prog W 0 (fun _ => true) true n' 23 ((l.drop 1).take (Try.prog.cellsOf 23)) = xs[1]? := hfl 1 _ rfl
  have hf2 : DataW.trod enc Try.prog W 0 (fun _ => true) true n' 22 ((l.drop 2).take (Try.prog.cellsOf 22)) = xs[2]? := hfl 2 _ rfl
  have hf3 : DataW.trod enc Try.prog W 0 (fun _ => true) true n' 22 ((l.drop 3).take (Try.prog.cellsOf 22)) = xs[3]? := hfl 3 _ rfl
  rw [s22] at hf0 hf2 hf3
  rw [s23] at hf1
  have hxl' : xs.length = 4 := hxl
  clear hxl hfl
  match l, hll, xs, hxl' with
  | [v0, v1, v2, v3], _, [y0, y1, y2, y3], _ =>
  have g0 : DataW.trod enc Try.prog W 0 (fun _ => true) true n' 22 [v0] = some y0 := hf0
  have g1 : DataW.trod enc Try.prog W 0 (fun _ => true) true n' 23 [v1] = some y1 := hf1
  have g2 : DataW.trod enc Try.prog W 0 (fun _ => true) true n' 22 [v2] = some y2 := hf2
  have g3 : DataW.trod enc Try.prog W 0 (fun _ => true) true n' 22 [v3] = some y3 := hf3
  have hda : d = .agg [y0.1, y1.1, y2.1, y3.1] := by injection hxx
  have hin : ∀ (j' : Nat) (t : TypeId) (z : DataW H), [22, 23, 22, 22][j']? = some t → [y0.1, y1.1, y2.1, y3.1][j']? = some z → ∀ q ∈ z.weights Try.prog t, q ≤ reachBytes := fun j' t z ht hz q hq => by
    have h9 := List.all_eq_true.1 hsz q (DataW.weights_mem_each hj hd q (by
      rw [hda, DataW.weights, Try.underlying25]
      exact DataW.weights_mem_each (ts := [22, 23, 22, 22]) (ds := [y0.1, y1.1, y2.1, y3.1]) (j := j') (t := t) (d := z) ht hz q hq))
    simpa using h9
  obtain ⟨⟨ia, ic, is⟩, rfl, k0⟩ := wl_of_trod g0 (hin 0 22 _ rfl rfl)
  obtain ⟨wa, wc, ws, rfl, k1, k1', _⟩ := wls_of_trod g1 (hin 1 23 _ rfl rfl)
  obtain ⟨⟨oa, oc, who⟩, rfl, k2⟩ := wl_of_trod g2 (hin 2 22 _ rfl rfl)
  obtain ⟨⟨ea, ec, wh⟩, rfl, k3⟩ := wl_of_trod g3 (hin 3 22 _ rfl rfl)
  exact ⟨⟨ia, ic, is, wa, wc, ws, oa, oc, who, ea, ec, wh⟩, rfl, ⟨k0, k1, k1', k2, k3⟩⟩
end Go.Proofs.Ytpikmcapnmdmbaa
