/-
  Layer 22: Clear: what is answered lies in memory of its own, in blocks apart.
-/
import Derived.Test.YtpikmcapnmdmbaaZd
import Derived.Test.YtpikmcapnmdmbaaZc
import Derived.Test.YtpikmcapnmdmbaaZf
import Derived.Test.YtpikmcapnmdmbaaZe
import Derived.Test.YtpikmcapnmdmbaaWx
namespace Go.Proofs.Ytpikmcapnmdmbaa
open Go.RowKit Go.K
set_option linter.unusedVariables false
set_option linter.unusedSimpArgs false
/-- What Clear gets, and how many cycles it finds. -/
def ClV (is : List Int) (ws : List (List Int)) (L : List Int) (N : Nat) : Prop :=
  (¬ MeetP is ws.length ∧ L = [] ∧ N = 0) ∨ (MeetP is ws.length ∧ ∃ (cs : List (List Nat)) (D : Nat → Bool) (G : Nat → Int), RunTo is.length (pts is ws) cs D ∧ (∀ i, i < is.length → D i = true) ∧ GotOk is cs G ∧ L = (List.range is.length).map G ∧ N = cs.length)
theorem clv_unique {is : List Int} {ws : List (List Int)} {L L' : List Int} {N N' : Nat} (h : ClV is ws L N) (h' : ClV is ws L' N') : L = L' ∧ N = N' := by
  rcases h with ⟨a, b, c⟩ | ⟨a, cs, D, G, h1, h2, h3, h4, h5⟩ <;> rcases h' with ⟨a', b', c'⟩ | ⟨a', cs', D', G', h1', h2', h3', h4', h5'⟩
  · exact ⟨b.trans b'.symm, c.trans c'.symm⟩
  · exact absurd a' a
  · exact absurd a a'
  · have e := run_unique h1 h1' h2 h2'
    subst e
    exact ⟨by rw [h4, h4']; exact got_same h1 h2 h3 h3', h5.trans h5'.symm⟩
def rowsOf (cs : List (List Nat)) (gs : List (Nat × Nat)) : List R3 := List.zipWith (fun (c : List Nat) (g : Nat × Nat) => (some ⟨g.1, 0, none⟩, c.length, g.2)) cs gs
theorem rowsOf_v (cs : List (List Nat)) (gs : List (Nat × Nat)) : (rowsOf cs gs).map r3 = cyV cs gs := by
  unfold rowsOf cyV
  rw [List.map_zipWith]
  rfl
theorem rowsOf_len {cs : List (List Nat)} {gs : List (Nat × Nat)} (h : gs.length = cs.length) : (rowsOf cs gs).length = cs.length := by simp [rowsOf, h]
theorem rowsOf_get {cs : List (List Nat)} {gs : List (Nat × Nat)} (h : gs.length = cs.length) {i : Nat} (hi : i < (rowsOf cs gs).length) : (rowsOf cs gs)[i] = (some ⟨(gs[i]'(by rw [rowsOf_len h] at hi; omega)).1, 0, none⟩, (cs[i]'(by rw [rowsOf_len h] at hi; omega)).length, (gs[i]'(by rw [rowsOf_len h] at hi; omega)).2) := by
  simp [rowsOf]
theorem fam_cons {B : Nat} {W : World} {r : R3} {l : List R3} {xs : List Value} (h : W.ownsRow B 3 1 (r3 r) r.2.1 xs) (hl : Fam B W l) (hn : ∀ b, (r3 r).ownBlock = some b → ¬ ownS l b) : Fam B W (r :: l) := by
  refine ⟨fun i hi => ?_, fun i j hi hj hne b h1 h2 => ?_⟩
  · cases i with
    | zero => exact ⟨xs, h⟩
    | succ i => exact hl.own i (by simpa using hi)
  · cases i with
    | zero =>
      cases j with
      | zero => exact hne rfl
      | succ j => exact hn b h1 ⟨_, List.getElem_mem (by simpa using hj), h2⟩
    | succ i =>
      cases j with
      | zero => exact hn b h2 ⟨_, List.getElem_mem (by simpa using hi), h1⟩
      | succ j => exact hl.dis i j (by simpa using hi) (by simpa using hj) (by omega) b h1 h2
theorem fam_nil (B : Nat) (W : World) : Fam B W [] := ⟨fun i hi => by simp at hi, fun i j hi => by simp at hi⟩
theorem Fam.kept {B : Nat} {w w' : World} {l : List R3} (h : Fam B w l) (hb : Below w.heap.size w w') : Fam B w' l :=
  ⟨fun i hi => by obtain ⟨xs, hx⟩ := h.own i hi; exact ⟨xs, owns_below (B := 0) hx hb⟩, h.dis⟩
theorem Fam.lt {B : Nat} {w : World} {l : List R3} (h : Fam B w l) {b : Nat} (hb : ownS l b) : B ≤ b ∧ b < w.heap.size := by
  obtain ⟨r, hr, hb⟩ := hb
  obtain ⟨i, hi, rfl⟩ := List.mem_iff_getElem.1 hr
  obtain ⟨xs, hx⟩ := h.own i hi
  exact hx.lt b hb
theorem ownS_append {l m : List R3} {b : Nat} : ownS (l ++ m) b ↔ ownS l b ∨ ownS m b := by
  constructor
  · rintro ⟨r, hr, hb⟩
    rcases List.mem_append.1 hr with h | h
    · exact .inl ⟨r, h, hb⟩
    · exact .inr ⟨r, h, hb⟩
  · rintro (⟨r, hr, hb⟩ | ⟨r, hr, hb⟩)
    · exact ⟨r, List.mem_append_left _ hr, hb⟩
    · exact ⟨r, List.mem_append_right _ hr, hb⟩
theorem fam_append {B : Nat} {w : World} {l m : List R3} (h : Fam B w l) (h2 : Fam B w m) (hd : ∀ b, ownS l b → ¬ ownS m b) : Fam B w (l ++ m) := by
  refine ⟨fun i hi => ?_, fun i j hi hj hne b e1 e2 => ?_⟩
  · by_cases c : i < l.length
    · rw [List.getElem_append_left c]; exact h.own i c
    · rw [List.getElem_append_right (by omega)]; exact h2.own _ _
  · by_cases ci : i < l.length
    · rw [List.getElem_append_left ci] at e1
      by_cases cj : j < l.length
      · rw [List.getElem_append_left cj] at e2; exact h.dis i j ci cj hne b e1 e2
      · rw [List.getElem_append_right (by omega)] at e2; exact hd b ⟨_, List.getElem_mem ci, e1⟩ ⟨_, List.getElem_mem _, e2⟩
    · rw [List.getElem_append_right (by omega)] at e1
      by_cases cj : j < l.length
      · rw [List.getElem_append_left cj] at e2; exact hd b ⟨_, List.getElem_mem cj, e2⟩ ⟨_, List.getElem_mem _, e1⟩
      · rw [List.getElem_append_right (by omega)] at e2
        exact h2.dis _ _ _ _ (by omega) b e1 e2
theorem Fam.base {B B' : Nat} {w : World} {l : List R3} (h : Fam B w l) (hb : B' ≤ B) : Fam B' w l := ⟨fun i hi => by obtain ⟨xs, hx⟩ := h.own i hi; exact ⟨xs, owns_base hx hb⟩, h.dis⟩
/-- What Clear answers, by its memory. -/
structure ClO (B : Nat) (W : World) (L : List Int) (N : Nat) (gv cv : R3) (rs : List R3) : Prop where
  got : W.ownsRow B 3 1 (r3 gv) gv.2.1 (vI L)
  cyc : W.ownsRow B 22 1 (r3 cv) cv.2.1 (rs.map r3)
  gl : gv.2.1 = L.length
  cl : cv.2.1 = N
  rl : rs.length = N
  fam : Fam B W (gv :: rs)
  mx : ∀ r ∈ gv :: rs, r.2.1 ≤ 1000000
  nx : N ≤ 1000000
theorem ClO.kept {B : Nat} {W W' : World} {L : List Int} {N : Nat} {gv cv : R3} {rs : List R3} (h : ClO B W L N gv cv rs) (hb : Below W.heap.size W W') : ClO B W' L N gv cv rs :=
  ⟨owns_below (B := 0) h.got hb, owns_below (B := 0) h.cyc hb, h.gl, h.cl, h.rl, h.fam.kept hb, h.mx, h.nx⟩
theorem clear_own {ia : Option Addr} {ic : Nat} {is : List Int} {wa : Option Addr} {wc m : Nat} {ws : List Wl} {w : World} (hl1 : is.length ≤ 1000000) (hs : Sl w ia (vI is)) (hw : Wf is) (hws : WsOk w wa ws) (hm : ws.length = m) :
    Calls Try.prog 12 #[.slice ia is.length ic, .slice wa m wc] w fun r w' => ∃ (gv cv : R3) (rs : List R3) (L : List Int) (N : Nat) (z : Int), r = .returned (.tuple #[r3 gv, r3 cv, .int .i64 z]) ∧ Below w.heap.size w w' ∧ ClV is (ws.map Wl.l) L N ∧ ClO w.heap.size w' L N gv cv rs := by
  refine (clear_ans hl1 hs hw hws hm).mono ?_
  rintro r w' ⟨s3, s4, s5, rfl, h, hb⟩
  have hwl : (ws.map Wl.l).length = ws.length := by simp
  rcases h with ⟨hr, hno⟩ | ⟨hm, cs, gs, D, g, G, vc, B, hr, hrun, hall, hgot, hrow, hg, hgB, hcy, hcr⟩
  · refine ⟨(none, 0, 0), (none, 0, 0), [], [], 0, 220, hr, hb, .inl ⟨by rw [hwl]; exact hno, rfl, rfl⟩, ⟨World.ownsRow_nil _ _ _ _, World.ownsRow_nil _ _ _ _, rfl, rfl, rfl, fam_cons (World.ownsRow_nil _ _ _ _) (fam_nil _ _) (fun b hb => by cases hb), fun r hr => ?_, by decide⟩⟩
    rw [List.mem_singleton] at hr
    subst hr; decide
  · obtain ⟨ad, cap, hvc, _, _, _⟩ := Go.K.owns_slice hcy
    have hsh := hrun.short
    have hmx := cycs_mx hrun hl1
    have hlt : ∀ x ∈ gs, B ≤ x.1 ∧ x.1 < w'.heap.size := hcr.lt
    have hgo : w'.ownsRow w.heap.size 3 1 (.slice (some ⟨g, 0, none⟩) is.length is.length) is.length (vI ((List.range is.length).map G)) := by
      refine ⟨by rw [vI_length, List.length_map, List.length_range, Nat.mul_one], .inr ⟨g, is.length, _, rfl, hg, hrow, Nat.le_refl _, by unfold maxLen; omega, by simp [tabI], ?_⟩⟩
      have e : (tabI is.length G).toList = vI ((List.range is.length).map G) := by simp [tabI, vI]
      rw [e, Nat.mul_one]
      exact List.take_of_length_le (by rw [vI_length, List.length_map, List.length_range]; omega)
    have hfr : Fam w.heap.size w' (rowsOf cs gs) := by
      refine ⟨fun i hi => ?_, fun i j hi hj hne b e1 e2 => ?_⟩
      · rw [rowsOf_get hcr.len hi]
        rw [rowsOf_len hcr.len] at hi
        exact ⟨_, owns_base (hcr.row i hi (by rw [hcr.len]; exact hi)) (by omega)⟩
      · rw [rowsOf_get hcr.len hi] at e1
        rw [rowsOf_get hcr.len hj] at e2
        rw [rowsOf_len hcr.len] at hi hj
        have e1 : (gs[i]'(by rw [hcr.len]; exact hi)).1 = b := Option.some.inj e1
        have e2 : (gs[j]'(by rw [hcr.len]; exact hj)).1 = b := Option.some.inj e2
        have hp := List.pairwise_iff_getElem.1 hcr.inc
        rcases Nat.lt_or_gt_of_ne hne with c | c
        · have := hp i j (by rw [hcr.len]; exact hi) (by rw [hcr.len]; exact hj) c; omega
        · have := hp j i (by rw [hcr.len]; exact hj) (by rw [hcr.len]; exact hi) c; omega
    refine ⟨(some ⟨g, 0, none⟩, is.length, is.length), (ad, cs.length, cap), rowsOf cs gs, (List.range is.length).map G, cs.length, 0, by rw [hr, hvc]; rfl, hb, .inr ⟨by rw [hwl]; exact hm, cs, D, G, hrun, hall, hgot, rfl, rfl⟩, ⟨hgo, ?_, by simp, rfl, rowsOf_len hcr.len, fam_cons hgo hfr (fun b hb hb2 => ?_), fun r hr => ?_, by omega⟩⟩
    · rw [rowsOf_v]
      have h := owns_base hcy (show w.heap.size ≤ B by omega)
      rw [hvc] at h
      exact h
    · have hb : g = b := Option.some.inj hb
      obtain ⟨r, hr, hb2⟩ := hb2
      obtain ⟨i, hi, rfl⟩ := List.mem_iff_getElem.1 hr
      rw [rowsOf_get hcr.len hi] at hb2
      rw [rowsOf_len hcr.len] at hi
      have hb2 : (gs[i]'(by rw [hcr.len]; exact hi)).1 = b := Option.some.inj hb2
      have := (hlt _ (List.getElem_mem (show i < gs.length by rw [hcr.len]; exact hi))).1
      omega
    · rcases List.mem_cons.1 hr with e | e
      · subst e; exact hl1
      · obtain ⟨i, hi, rfl⟩ := List.mem_iff_getElem.1 e
        rw [rowsOf_get hcr.len hi]
        rw [rowsOf_len hcr.len] at hi
        exact (hmx _ (List.getElem_mem hi)).1
end Go.Proofs.Ytpikmcapnmdmbaa
