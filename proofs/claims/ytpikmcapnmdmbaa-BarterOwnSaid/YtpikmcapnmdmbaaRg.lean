/-
  Layer 22: contracts that say the same end alike.
-/
import Derived.Test.YtpikmcapnmdmbaaRf
namespace Go.Proofs.Ytpikmcapnmdmbaa
open Go.RowKit Go.K
set_option linter.unusedVariables false
set_option linter.unusedSimpArgs false
theorem d_item {a b : List Ent} (h : a.map Ent.d = b.map Ent.d) : a.map Ent.item = b.map Ent.item := by
  have := congrArg (List.map fun x : Int × Int × Int × Int × List Int => x.2.1) h
  simpa [List.map_map, Function.comp_def, Ent.d] using this
theorem d_len {a b : List Ent} (h : a.map Ent.d = b.map Ent.d) : a.length = b.length := by
  have := congrArg List.length h
  simpa using this
theorem d_at {a b : List Ent} (h : a.map Ent.d = b.map Ent.d) (i : Nat) : (a[i]?).map Ent.d = (b[i]?).map Ent.d := by
  have := congrArg (fun l => l[i]?) h
  simpa using this
theorem mWs_l (es : List Ent) (L : List Int) (k : Nat) : (mWs es L k).map Wl.l = (mIx L k).filterMap fun i => ((es[i]?).map Ent.d).map fun x => x.2.2.2.2 := by
  unfold mWs
  rw [List.map_filterMap]
  congr 1
  funext i
  cases es[i]? <;> rfl
theorem mWs_d {a b : List Ent} (h : a.map Ent.d = b.map Ent.d) (L : List Int) (k : Nat) : (mWs a L k).map Wl.l = (mWs b L k).map Wl.l := by
  rw [mWs_l, mWs_l]
  congr 1
  funext i
  rw [d_at h i]
theorem giftE_d {a b : Ent} (h : a.d = b.d) (x : Int) : giftE a x = giftE b x := by
  simp only [Ent.d, Prod.mk.injEq] at h
  unfold giftE
  rw [h.1, h.2.2.1]
theorem endG_d {a b : List Ent} (h : a.map Ent.d = b.map Ent.d) (L : List Int) (G G' : Nat → Int) (n : Nat) (hn : n ≤ L.length) (hG : ∀ k, k < (mIx L n).length → G k = G' k) : ∀ k, k ≤ n → endG a L G k = endG b L G' k
  | 0, _ => rfl
  | k + 1, hk => by
    rw [endG, endG, endG_d h L G G' n hn hG k (by omega)]
    congr 1
    have hi : itemAt L G k = itemAt L G' k := by
      unfold itemAt
      split
      · next hm => exact hG _ (mIx_lt L (by omega) hm)
      · rfl
    have hd := d_at h k
    cases ha : a[k]? with
    | none =>
      cases hb : b[k]? with
      | none => rfl
      | some y => rw [ha, hb] at hd; cases hd
    | some x =>
      cases hb : b[k]? with
      | none => rw [ha, hb] at hd; cases hd
      | some y =>
        rw [ha, hb] at hd
        show giftE x (itemAt L G k) = giftE y (itemAt L G' k)
        rw [hi, giftE_d (Option.some.inj hd)]
theorem ends_same {a b : List Ent} (h : a.map Ent.d = b.map Ent.d) {G G' : Nat → Int} (hg : Got (mIs (a.map Ent.item) a.length) ((mWs a (a.map Ent.item) a.length).map Wl.l) G) (hg' : Got (mIs (b.map Ent.item) b.length) ((mWs b (b.map Ent.item) b.length).map Wl.l) G') :
    endG a (a.map Ent.item) G a.length = endG b (b.map Ent.item) G' b.length := by
  have hL := d_item h
  have hn := d_len h
  rw [mWs_d h, hL, hn] at hg
  rw [hL, hn]
  refine endG_d h _ G G' b.length (by simp) (fun k hk => got_unique hg hg' k ?_) b.length (Nat.le_refl _)
  rw [mIs_length]
  exact hk
theorem con_es {c l : Con} (h : l.d = c.d) : l.es.map Ent.d = c.es.map Ent.d := by
  simp only [Con.d, Prod.mk.injEq] at h
  exact h.2.2
theorem entP_d {a b : Ent} (h : a.d = b.d) : entP a = entP b := by
  simp only [Ent.d, Prod.mk.injEq] at h
  obtain ⟨_, h2, h3, h4, h5⟩ := h
  unfold entP
  rw [h2, h3, h4, h5]
theorem oneB_d {a b : List Ent} (h : a.map Ent.d = b.map Ent.d) (y : Int) : oneB y a = oneB y b := by
  have hl := d_len h
  match a, b, hl with
  | [], [], _ => rfl
  | [x], [z], _ =>
    have hd : x.d = z.d := by simpa using h
    have ha : x.acc = z.acc := congrArg (fun q => q.1) hd
    show (decide (x.acc = y) && entP x) = (decide (z.acc = y) && entP z)
    rw [ha, entP_d hd]
  | _ :: _ :: _, _ :: _ :: _, _ => rfl
theorem termsB_d {c l : Con} (h : l.d = c.d) : termsB l = termsB c := by
  have he := con_es h
  simp only [Con.d, Prod.mk.injEq] at h
  obtain ⟨⟨_, h2, h3, _, h5⟩, ⟨h6, h7, h8, h9, h10⟩, _⟩ := h
  unfold termsB headB
  rw [h2, h3, h5, h6, h7, h8, h9, h10, oneB_d he]
theorem hasA_d {a b : List Ent} (h : a.map Ent.d = b.map Ent.d) (y : Int) : hasA a y = hasA b y := by
  have h1 : ∀ l : List Ent, hasA l y = (l.map Ent.d).any fun x => decide (x.1 = y) := fun l => by
    unfold hasA
    rw [List.any_map]
    rfl
  rw [h1, h1, h]
theorem joinV_d {c l : Con} {e o : Ent} (h : l.d = c.d) (ho : o.d = e.d) : joinV l o = joinV c e := by
  have he := con_es h
  have hl := d_len he
  have hp := entP_d ho
  have ha : o.acc = e.acc := congrArg (fun q => q.1) ho
  simp only [Con.d, Prod.mk.injEq] at h
  obtain ⟨⟨_, h2, h3, _, h5⟩, _⟩ := h
  unfold joinV
  rw [h2, h3, hp, ha, hasA_d he, hl]
end Go.Proofs.Ytpikmcapnmdmbaa
