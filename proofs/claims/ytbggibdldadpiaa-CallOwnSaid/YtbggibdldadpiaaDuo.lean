/-
  Two slices of a call's own, apart from each other, each gone on with, both looked at: what each shows. The same text for every seat (no program in it).
-/
import Derived.Test.YtbggibdldadpiaaGrow
namespace Go.K
open Go.RowKit
set_option linter.unusedVariables false
set_option linter.unusedSimpArgs false
/-- What a slice of a block of the kind shows from the block's beginning. -/
def VerT (t : TypeId) (W : World) (v : Value) (xs : List Value) : Prop := xs ≠ [] → ∃ g cur, v.ownBlock = some g ∧ W.heap[g]? = some (.cells cur t (0, 0)) ∧ cur.toList.take xs.length = xs
theorem VerT.of_owns {W : World} {B t sz n : Nat} {v : Value} {xs : List Value} (h : W.ownsRow B t sz v n xs) : VerT t W v xs := by
  intro hne
  rcases h.2 with ⟨h1, h0⟩ | ⟨g, cap, cur, hv, hbg, hg, hnc, hcm, hcs, ht⟩
  · exact absurd (List.eq_nil_of_length_eq_zero (by rw [h.1, h0, Nat.zero_mul])) hne
  · subst hv
    exact ⟨g, cur, rfl, hg, by rw [h.1]; exact ht⟩
theorem VerT.grown {t : TypeId} {W W' : World} {v : Value} {xs : List Value} {row : Option Nat} (h : VerT t W v xs) (hg : W.grownBy W' row) (hn : ∀ b, v.ownBlock = some b → row ≠ some b) : VerT t W' v xs := by
  intro hne
  obtain ⟨g, cur, e, hr, ht⟩ := h hne
  exact ⟨g, cur, e, row_past hr hg (fun e2 => hn g e e2.symm), ht⟩
theorem VerT.below {t : TypeId} {W W' : World} {v : Value} {xs : List Value} (h : VerT t W v xs) (hb : Below W.heap.size W W') : VerT t W' v xs := by
  intro hne
  obtain ⟨g, cur, e, hr, ht⟩ := h hne
  exact ⟨g, cur, e, row_kept hr hb, ht⟩
/-- One slice: what it showed, and where the one that goes on with it lies. -/
structure Duo (B : Nat) (t : TypeId) (sz : Nat) (w0 W : World) (va : Value) (n : Nat) (xs : List Value) (k : Nat) (us : List Value) (vg : Value) : Prop where
  own : W.ownsRow B t sz vg (n + k) (xs ++ us)
  ver : VerT t W va xs
  lat : vg.ownBlock = va.ownBlock ∨ ∃ b, vg.ownBlock = some b ∧ w0.heap.size ≤ b
def offB (v v' : Value) : Prop := ∀ b, v.ownBlock = some b → v'.ownBlock ≠ some b
theorem offB.symm {v v' : Value} (h : offB v v') : offB v' v := fun b hb hb2 => h b hb2 hb
/-- Both. -/
structure Two (B : Nat) (t : TypeId) (sz : Nat) (w0 W : World) (va vb : Value) (n m : Nat) (xs ys : List Value) (k l : Nat) (us zs : List Value) (vg vh : Value) : Prop where
  a : Duo B t sz w0 W va n xs k us vg
  b : Duo B t sz w0 W vb m ys l zs vh
  gh : offB vg vh
  ah : offB va vh
  bg : offB vb vg
  only : Only (fun x => va.ownBlock = some x ∨ vb.ownBlock = some x) w0 W
theorem Two.swap {B : Nat} {t : TypeId} {sz : Nat} {w0 W : World} {va vb : Value} {n m : Nat} {xs ys : List Value} {k l : Nat} {us zs : List Value} {vg vh : Value} (h : Two B t sz w0 W va vb n m xs ys k l us zs vg vh) :
    Two B t sz w0 W vb va m n ys xs l k zs us vh vg := ⟨h.b, h.a, h.gh.symm, h.bg, h.ah, h.only.mono fun x hx => hx.symm⟩
theorem Two.start {B : Nat} {t : TypeId} {sz : Nat} {w0 : World} {va vb : Value} {n m : Nat} {xs ys : List Value} (ha : w0.ownsRow B t sz va n xs) (hb : w0.ownsRow B t sz vb m ys) (hab : offB va vb) : Two B t sz w0 w0 va vb n m xs ys 0 0 [] [] va vb :=
  ⟨⟨by rw [List.append_nil]; exact ha, VerT.of_owns ha, .inl rfl⟩, ⟨by rw [List.append_nil]; exact hb, VerT.of_owns hb, .inl rfl⟩, hab, hab, hab.symm, Only.refl _ _⟩
theorem Two.below {B : Nat} {t : TypeId} {sz : Nat} {w0 W W' : World} {va vb : Value} {n m : Nat} {xs ys : List Value} {k l : Nat} {us zs : List Value} {vg vh : Value} (h : Two B t sz w0 W va vb n m xs ys k l us zs vg vh) (hb : Below W.heap.size W W') :
    Two B t sz w0 W' va vb n m xs ys k l us zs vg vh :=
  ⟨⟨owns_below (B := 0) h.a.own hb, h.a.ver.below hb, h.a.lat⟩, ⟨owns_below (B := 0) h.b.own hb, h.b.ver.below hb, h.b.lat⟩, h.gh, h.ah, h.bg, h.only.trans (Only.of_below (S := fun _ => False) hb) (fun b hb => absurd hb id)⟩
/-- The first is gone on with. -/
theorem Two.app {B : Nat} {t : TypeId} {sz : Nat} {w0 W W' : World} {va vb : Value} {n m : Nat} {xs ys : List Value} {k l : Nat} {us zs : List Value} {vg vh v' : Value} {news : List Value} (h : Two B t sz w0 W va vb n m xs ys k l us zs vg vh) (hva : ∀ b, va.ownBlock = some b → b < w0.heap.size) (hvb : ∀ b, vb.ownBlock = some b → b < w0.heap.size)
    (ho : W'.ownsRow B t sz v' (n + k + 1) ((xs ++ us) ++ news)) (hg : W.grownBy W' vg.ownBlock) (hl : (v'.ownBlock = vg.ownBlock ∧ vg.ownBlock ≠ none) ∨ (v'.ownBlock = some W.heap.size ∧ Below W.heap.size W W')) :
    Two B t sz w0 W' va vb n m xs ys (k + 1) l (us ++ news) zs v' vh := by
  have hsz := h.only.size
  have hlt : ∀ b, vh.ownBlock = some b → b < W.heap.size := fun b hb => (h.b.own.lt b hb).2
  have hgt : ∀ b, vg.ownBlock = some b → b < W.heap.size := fun b hb => (h.a.own.lt b hb).2
  have hoff : ∀ {v : Value}, offB v vg → (∀ b, v.ownBlock = some b → b < W.heap.size) → offB v v' := by
    intro v h1 h2 b hb hb2
    rcases hl with ⟨e, _⟩ | ⟨e, _⟩
    · exact h1 b hb (e.symm.trans hb2)
    · rw [e] at hb2
      have := h2 b hb
      injection hb2 with hb2
      omega
  have hother : ∀ {v : Value}, offB v vg → (v.ownBlock = none ∨ v.ownBlock ≠ vg.ownBlock) := by
    intro v h1
    cases hv : v.ownBlock with
    | none => exact .inl rfl
    | some b => exact .inr (fun e => h1 b hv e.symm)
  refine ⟨⟨by rw [← Nat.add_assoc, ← List.append_assoc]; exact ho, ?_, ?_⟩, ⟨h.b.own.kept hg (hother h.gh.symm), h.b.ver.grown hg (fun b hb e => h.bg b hb e), h.b.lat⟩, ?_, h.ah, ?_, ?_⟩
  · rcases hl with ⟨e1, e2⟩ | ⟨e1, e2⟩
    · intro hne
      obtain ⟨g, cur, e, hr, ht⟩ := h.a.ver hne
      by_cases hb : vg.ownBlock = some g
      · have hv := VerT.of_owns ho (by intro e; have := congrArg List.length e; simp at this; exact hne this.1)
        obtain ⟨g2, cur2, h1, h2, h3⟩ := hv
        rw [e1, hb] at h1
        injection h1 with h1
        subst h1
        refine ⟨g, cur2, e, h2, ?_⟩
        have := congrArg (List.take xs.length) h3
        rw [List.take_take, Nat.min_eq_left (by simp only [List.length_append]; omega), List.append_assoc, List.take_left] at this
        exact this
      · exact ⟨g, cur, e, row_past hr hg (fun e2 => hb e2.symm), ht⟩
    · exact h.a.ver.below e2
  · rcases hl with ⟨e1, _⟩ | ⟨e1, _⟩
    · rw [e1]; exact h.a.lat
    · exact .inr ⟨_, e1, hsz⟩
  · exact (hoff h.gh.symm hlt).symm
  · exact hoff h.bg (fun b hb => by have := hvb b hb; omega)
  · refine h.only.trans (T := fun x => vg.ownBlock = some x) (Only.of_grown hg (fun b hb => hb)) (fun x hx => ?_)
    rcases h.a.lat with e | ⟨b, e, hb⟩
    · exact .inl (.inl (e.symm.trans hx))
    · rw [e] at hx; injection hx with hx; exact .inr (hx ▸ hb)
/-- What is written into both and into what goes on with them, cell by cell. -/
structure Mk (sz : Nat) (W : World) (gA gB gG gH n N : Nat) (ma mb mg mh : Nat → Value) (ja jb : Nat) : Prop where
  ca : ∀ i, i < ja → W.cell? ⟨gA, i * sz, none⟩ = some (ma i)
  cb : ∀ i, i < jb → W.cell? ⟨gB, i * sz, none⟩ = some (mb i)
  cg : ∀ k, k < N → W.cell? ⟨gG, (n + k) * sz, none⟩ = some (mg k)
  ch : ∀ k, k < N → W.cell? ⟨gH, (n + k) * sz, none⟩ = some (mh k)
  xa : ∀ i, i < n → ∃ u, W.cell? ⟨gA, i * sz, none⟩ = some u
  xb : ∀ i, i < n → ∃ u, W.cell? ⟨gB, i * sz, none⟩ = some u
  fa : ∀ i, i < n → W.frozen? ⟨gA, i * sz, none⟩ = false
  fb : ∀ i, i < n → W.frozen? ⟨gB, i * sz, none⟩ = false
theorem Mk.swap {sz : Nat} {W : World} {gA gB gG gH n N : Nat} {ma mb mg mh : Nat → Value} {ja jb : Nat} (h : Mk sz W gA gB gG gH n N ma mb mg mh ja jb) : Mk sz W gB gA gH gG n N mb ma mh mg jb ja :=
  ⟨h.cb, h.ca, h.ch, h.cg, h.xb, h.xa, h.fb, h.fa⟩
theorem Mk.setA {sz : Nat} {W : World} {gA gB gG gH n N : Nat} {ma mb mg mh : Nat → Value} {ja jb : Nat} (h : Mk sz W gA gB gG gH n N ma mb mg mh ja jb) (hz : 0 < sz) (hja : ja < n) (hAB : gA ≠ gB) (hAH : gA ≠ gH) {v : Value} (hv : v = ma ja) :
    Mk sz (W.setCell ⟨gA, ja * sz, none⟩ v) gA gB gG gH n N ma mb mg mh (ja + 1) jb := by
  have far : ∀ {g o : Nat} {u : Value}, (g ≠ gA ∨ o ≠ ja * sz) → W.cell? ⟨g, o, none⟩ = some u → (W.setCell ⟨gA, ja * sz, none⟩ v).cell? ⟨g, o, none⟩ = some u := by
    intro g o u hne hc
    rw [World.cell?_setCell_other (h := fun e => by cases e; simp at hne)]; exact hc
  have hmul : ∀ i, i ≠ ja → i * sz ≠ ja * sz := fun i hi e => hi (Nat.mul_right_cancel hz e)
  obtain ⟨u0, hu0⟩ := h.xa ja hja
  refine ⟨fun i hi => ?_, fun i hi => far (.inl (Ne.symm hAB)) (h.cb i hi), fun k hk => far (.inr (hmul (n + k) (by omega))) (h.cg k hk), fun k hk => far (.inl (Ne.symm hAH)) (h.ch k hk), fun i hi => ?_, fun i hi => ?_, fun i hi => ?_, fun i hi => ?_⟩
  · by_cases e : i = ja
    · subst e; rw [World.cell?_setCell_same W _ v hu0, hv]
    · exact far (.inr (hmul i e)) (h.ca i (by omega))
  · by_cases e : i = ja
    · subst e; exact ⟨v, World.cell?_setCell_same W _ v hu0⟩
    · obtain ⟨u, hu⟩ := h.xa i hi; exact ⟨u, far (.inr (hmul i e)) hu⟩
  · obtain ⟨u, hu⟩ := h.xb i hi; exact ⟨u, far (.inl (Ne.symm hAB)) hu⟩
  · rw [World.frozen?_setCell]; exact h.fa i hi
  · rw [World.frozen?_setCell]; exact h.fb i hi
theorem Mk.setB {sz : Nat} {W : World} {gA gB gG gH n N : Nat} {ma mb mg mh : Nat → Value} {ja jb : Nat} (h : Mk sz W gA gB gG gH n N ma mb mg mh ja jb) (hz : 0 < sz) (hjb : jb < n) (hAB : gA ≠ gB) (hBG : gB ≠ gG) {v : Value} (hv : v = mb jb) :
    Mk sz (W.setCell ⟨gB, jb * sz, none⟩ v) gA gB gG gH n N ma mb mg mh ja (jb + 1) := (h.swap.setA hz hjb (Ne.symm hAB) hBG hv).swap
theorem own_block_of {W : World} {B t sz n : Nat} {v : Value} {xs : List Value} (h : W.ownsRow B t sz v n xs) (hn : 0 < n) : ∃ g, v.ownBlock = some g := by
  obtain ⟨g, cap, cur, rfl, _⟩ := owns_cases h hn
  exact ⟨g, rfl⟩
theorem Mk.start {B t sz : Nat} {w0 W : World} {va vb : Value} {n N : Nat} {xs ys us zs : List Value} {gA gB gG gH c d : Nat} {ma mb mg mh : Nat → Value}
    (h : Two B t sz w0 W va vb n n xs ys N N us zs (.slice (some ⟨gG, 0, none⟩) (n + N) c) (.slice (some ⟨gH, 0, none⟩) (n + N) d)) (hz : 0 < sz) (hxs : xs.length = n * sz) (hys : ys.length = n * sz) (hus : ∀ k, k < N → us[k * sz]? = some (mg k)) (hzs : ∀ k, k < N → zs[k * sz]? = some (mh k))
    (hA : 0 < n → va.ownBlock = some gA) (hB : 0 < n → vb.ownBlock = some gB) : Mk sz W gA gB gG gH n N ma mb mg mh 0 0 := by
  have row : ∀ {v : Value} {ps : List Value} {g : Nat}, ps.length = n * sz → VerT t W v ps → v.ownBlock = some g → ∀ i, i < n → (∃ u, W.cell? ⟨g, i * sz, none⟩ = some u) ∧ W.frozen? ⟨g, i * sz, none⟩ = false := by
    intro v ps g hl hv hg i hi
    have hlt : i * sz < n * sz := Nat.mul_lt_mul_of_pos_right hi hz
    obtain ⟨g2, cur, h1, h2, h3⟩ := hv (by intro e; rw [e] at hl; simp at hl; omega)
    rw [hg] at h1
    injection h1 with h1
    subst h1
    have hsz : i * sz < cur.size := by
      have := congrArg List.length h3
      rw [List.length_take] at this
      have e : cur.toList.length = cur.size := by simp
      omega
    exact ⟨⟨cur[i * sz], by rw [cell_of_row _ _ _ _ _ _ h2, Array.getElem?_eq_getElem hsz]⟩, frozen_of_row _ _ _ _ _ h2⟩
  have go : ∀ {v : Value} {ps qs : List Value} {g cc : Nat} {m : Nat → Value}, ps.length = n * sz → W.ownsRow B t sz (.slice (some ⟨g, 0, none⟩) (n + N) cc) (n + N) (ps ++ qs) → (∀ k, k < N → qs[k * sz]? = some (m k)) → ∀ k, k < N → W.cell? ⟨g, (n + k) * sz, none⟩ = some (m k) := by
    intro v ps qs g cc m hl ho hq k hk
    have := ho.cells (g := g) rfl ((n + k) * sz) (m k) (by rw [Nat.add_mul, List.getElem?_append_right (by omega), hl, Nat.add_sub_cancel_left]; exact hq k hk)
    rw [add_spot, Nat.zero_add] at this
    exact this
  exact ⟨fun i hi => absurd hi (Nat.not_lt_zero i), fun i hi => absurd hi (Nat.not_lt_zero i), go (v := va) hxs h.a.own hus, go (v := vb) hys h.b.own hzs,
    fun i hi => (row hxs h.a.ver (hA (by omega)) i hi).1, fun i hi => (row hys h.b.ver (hB (by omega)) i hi).1, fun i hi => (row hxs h.a.ver (hA (by omega)) i hi).2, fun i hi => (row hys h.b.ver (hB (by omega)) i hi).2⟩
end Go.K
