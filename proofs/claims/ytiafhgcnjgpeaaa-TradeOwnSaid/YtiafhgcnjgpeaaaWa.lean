/-
  Layer 20: contracts and entries as values; the statements' looks, walked where both show the same.
-/
import Derived.Test.YtiafhgcnjgpeaaaRows
import Derived.Test.YtiafhgcnjgpeaaaKw
import Derived.Test.YtiafhgcnjgpeaaaMem
import Derived.Test.YtiafhgcnjgpeaaaReg
import Derived.BigQuiet
import Derived.Deep.QuietTactic
namespace Go.Proofs.Ytiafhgcnjgpeaaa
open Go.RowKit Go.K
set_option linter.unusedVariables false
set_option linter.unusedSimpArgs false

def vI (l : List Int) : List Value := l.map fun c => .int .i64 c
theorem vI_length (l : List Int) : (vI l).length = l.length := by simp [vI]
theorem vI_get (l : List Int) (i : Nat) (h : i < l.length) : (vI l)[i]? = some (.int .i64 l[i]) := by
  simp [vI, List.getElem?_eq_getElem h]
theorem vI_append (l m : List Int) : vI (l ++ m) = vI l ++ vI m := by simp [vI]
theorem vI_ne {l : List Int} {k : Nat} (h : k < l.length) : vI l ≠ [] := fun e => by
  have := congrArg List.length e
  rw [vI_length] at this
  simp only [List.length_nil] at this
  omega
theorem oneCell_vI (l : List Int) : ∀ u ∈ vI l, u.oneCell' = true := by
  intro u hu
  obtain ⟨c, _, rfl⟩ := List.mem_map.1 hu
  rfl
/-- An entry, as it lies: its numbers, its wishes and where they lie. -/
structure Ent where
  acc : Int
  item : Int
  coins : Int
  price : Int
  wa : Option Addr
  wc : Nat
  ws : List Int
def Ent.cells (e : Ent) : List Value := [.int .i64 e.acc, .int .i64 e.item, .int .u64 e.coins, .int .u64 e.price, .slice e.wa e.ws.length e.wc]
def Ent.agg (e : Ent) : Value := .agg #[.int .i64 e.acc, .int .i64 e.item, .int .u64 e.coins, .int .u64 e.price, .slice e.wa e.ws.length e.wc]
/-- What it says. -/
def Ent.d (e : Ent) : Int × Int × Int × Int × List Int := (e.acc, e.item, e.coins, e.price, e.ws)
structure EntOk (W : World) (e : Ent) : Prop where
  sl : Sl W e.wa (vI e.ws)
  le : e.ws.length ≤ e.wc
  mx : e.ws.length ≤ 17592186043904
  nil : e.wa = none → e.ws.length = 0 ∧ e.wc = 0
structure Con where
  num : Int
  kind : Int
  by' : Int
  dl : Int
  to : Int
  want : Int
  price : Int
  reserve : Int
  step : Int
  of' : Int
  ea : Option Addr
  ec : Nat
  es : List Ent
def eFlat (l : List Ent) : List Value := l.flatMap Ent.cells
def Con.agg (c : Con) : Value := .agg #[.int .i64 c.num, .int .i64 c.kind, .int .i64 c.by', .int .i64 c.dl, .int .i64 c.to, .int .i64 c.want, .int .u64 c.price, .int .u64 c.reserve, .int .u64 c.step, .int .i64 c.of', .slice c.ea c.es.length c.ec]
def Con.d (c : Con) : (Int × Int × Int × Int × Int) × (Int × Int × Int × Int × Int) × List (Int × Int × Int × Int × List Int) := ((c.num, c.kind, c.by', c.dl, c.to), (c.want, c.price, c.reserve, c.step, c.of'), c.es.map Ent.d)
structure ConOk (W : World) (c : Con) : Prop where
  sl : Sl W c.ea (eFlat c.es)
  ents : ∀ e ∈ c.es, EntOk W e
  le : c.es.length ≤ c.ec
  mx : c.es.length ≤ 2513169434843
  nil : c.ea = none → c.es.length = 0 ∧ c.ec = 0
theorem eFlat_length (l : List Ent) : (eFlat l).length = l.length * 5 := by
  induction l with
  | nil => rfl
  | cons e l ih => show (e.cells ++ eFlat l).length = _; rw [List.length_append, ih]; simp [Ent.cells]; omega
theorem eFlat_append (l m : List Ent) : eFlat (l ++ m) = eFlat l ++ eFlat m := by simp [eFlat]
theorem eFlat_get (l : List Ent) (i j : Nat) (h : i < l.length) (hj : j < 5) : (eFlat l)[i * 5 + j]? = l[i].cells[j]? := by
  have e1 : l = l.take i ++ l[i] :: l.drop (i + 1) := by rw [← List.drop_eq_getElem_cons h, List.take_append_drop]
  have h1 : eFlat l = eFlat (l.take i) ++ (l[i].cells ++ eFlat (l.drop (i + 1))) := by
    conv => lhs; rw [e1]
    rw [eFlat_append]; rfl
  rw [h1, List.getElem?_append_right (by rw [eFlat_length, List.length_take]; omega), eFlat_length, List.length_take, Nat.min_eq_left (by omega), show i * 5 + j - i * 5 = j by omega, List.getElem?_append_left (by simpa [Ent.cells] using hj)]
theorem EntOk.kept {W W' : World} {e : Ent} (h : EntOk W e) (hb : Below W.heap.size W W') : EntOk W' e := ⟨h.sl.kept hb, h.le, h.mx, h.nil⟩
theorem ConOk.kept {W W' : World} {c : Con} (h : ConOk W c) (hb : Below W.heap.size W W') : ConOk W' c :=
  ⟨h.sl.kept hb, fun e he => (h.ents e he).kept hb, h.le, h.mx, h.nil⟩
/-- The cells of entry number i. -/
theorem ConOk.ent {W : World} {c : Con} (h : ConOk W c) (i : Nat) (hi : i < c.es.length) : ∃ b off, c.ea = some ⟨b, off, none⟩ ∧
    W.cell? ⟨b, off + i * 5, none⟩ = some (.int .i64 c.es[i].acc) ∧ W.cell? ⟨b, off + i * 5 + 1, none⟩ = some (.int .i64 c.es[i].item) ∧ W.cell? ⟨b, off + i * 5 + 2, none⟩ = some (.int .u64 c.es[i].coins) ∧
    W.cell? ⟨b, off + i * 5 + 3, none⟩ = some (.int .u64 c.es[i].price) ∧ W.cell? ⟨b, off + i * 5 + 4, none⟩ = some (.slice c.es[i].wa c.es[i].ws.length c.es[i].wc) := by
  have hl := eFlat_length c.es
  obtain ⟨b, off, he, hc⟩ := h.sl (fun e => by rw [e] at hl; simp at hl; omega)
  refine ⟨b, off, he, ?_, ?_, ?_, ?_, ?_⟩
  · have := hc (i * 5 + 0) (by omega)
    rw [eFlat_get _ i 0 hi (by omega)] at this; exact this
  · have := hc (i * 5 + 1) (by omega)
    rw [eFlat_get _ i 1 hi (by omega)] at this; rw [Nat.add_assoc]; exact this
  · have := hc (i * 5 + 2) (by omega)
    rw [eFlat_get _ i 2 hi (by omega)] at this; rw [Nat.add_assoc]; exact this
  · have := hc (i * 5 + 3) (by omega)
    rw [eFlat_get _ i 3 hi (by omega)] at this; rw [Nat.add_assoc]; exact this
  · have := hc (i * 5 + 4) (by omega)
    rw [eFlat_get _ i 4 hi (by omega)] at this; rw [Nat.add_assoc]; exact this
theorem num_any (n : Int) (w : World) : Calls Try.prog 13 #[.int .i64 n] w fun e w' => e = .returned (.int .i64 n) ∧ w = w' := by
  go_enter Try.func13, Try.ntmps13
  go_wp2
  go_ret
  exact ⟨rfl, rfl⟩
theorem ints_true (a b : Option Addr) (c d : Nat) (l : List Int) (w : World) (hl : l.length ≤ maxLen) (ha : Sl w a (vI l)) (hb : Sl w b (vI l)) :
    Calls Try.prog 34 #[.slice a l.length c, .slice b l.length d] w fun e w' => e = .returned (.bool true) ∧ Qt w w' := by
  unfold maxLen at hl
  have HA := Lib.hid ha
  have HB := Lib.hid hb
  have hb0 : ((l.length : Int) != (l.length : Int)) = false := by simp
  clear ha hb
  go_enter Try.func34, Try.ntmps34
  go_wp2
  go_loopw [5] (fun i wr => ∃ k : Nat, k ≤ l.length ∧ i = .int .i64 k ∧ Qt w wr) (fun i _ => l.length - (intOf i).toNat)
  case atStart => exact ⟨0, by omega, rfl, Qt.refl _⟩
  case round =>
    obtain ⟨k, hk, rfl, hq⟩ := hrel
    have HQ := Lib.hid hq
    clear hq
    by_cases hlt : k < l.length
    · have hbk : decide ((k : Int) < (l.length : Int)) = true := by simp; omega
      obtain ⟨b1, o1, rfl, hc1⟩ := (HQ.out.sl HA.out) (vI_ne hlt)
      obtain ⟨b2, o2, rfl, hc2⟩ := (HQ.out.sl HB.out) (vI_ne hlt)
      have h1 := hc1 k (by rw [vI_length]; exact hlt)
      have h2 := hc2 k (by rw [vI_length]; exact hlt)
      rw [vI_get l k hlt] at h1 h2
      have i1 : (k : Int) < (l.length : Int) := by omega
      have hne : (l[k] != l[k]) = false := by simp
      clear hc1 hc2
      go_wp2
      go_quiet (fail)
      go_wp2
      go_roundw
      case rel => exact ⟨k + 1, by omega, by go_num, HQ.out.trans ⟨_, rfl⟩⟩
      case measure => simp [intOf]; omega
    · have hbk : decide ((k : Int) < (l.length : Int)) = false := by simp; omega
      go_wp2
      go_ret
      exact ⟨rfl, HQ.out⟩
theorem entry_true (x y : Ent) (w : World) (hx : EntOk w x) (hy : EntOk w y) (hd : x.d = y.d) :
    Calls Try.prog 28 #[x.agg, y.agg] w fun e w' => e = .returned (.bool true) ∧ Below w.heap.size w w' := by
  obtain ⟨a1, i1, c1, p1, wa1, wc1, ws1⟩ := x
  obtain ⟨a2, i2, c2, p2, wa2, wc2, ws2⟩ := y
  simp only [Ent.d, Prod.mk.injEq] at hd
  obtain ⟨rfl, rfl, rfl, rfl, rfl⟩ := hd
  have HX := Lib.hid hx.sl
  have HY := Lib.hid hy.sl
  have hm : ws1.length ≤ 17592186043904 := hx.mx
  have e1 : (a1 == a1) = true := by simp
  have e2 : (i1 == i1) = true := by simp
  have e3 : (c1 == c1) = true := by simp
  have e4 : (p1 == p1) = true := by simp
  clear hx hy
  unfold Ent.agg
  go_enter Try.func28, Try.ntmps28
  go_wp2_with fail
  have hb0 : Below w.heap.size w ((w.alloc (.cells #[.int .i64 a1, .int .i64 i1, .int .u64 c1, .int .u64 p1, .slice wa1 ws1.length wc1] 44)).alloc (.cells #[.int .i64 a1, .int .i64 i1, .int .u64 c1, .int .u64 p1, .slice wa2 ws1.length wc2] 44)) :=
    ((Below.refl _ _).alloc (Nat.le_refl _) _).alloc (by simp) _
  refine (ints_true wa1 wa2 wc1 wc2 ws1 _ (by unfold maxLen; omega) (HX.out.kept hb0) (HY.out.kept hb0)).mono ?_
  rintro e w1 ⟨rfl, hq⟩
  go_wp2
  go_ret
  exact ⟨rfl, hb0.trans (hq.below _)⟩
set_option maxRecDepth 100000 in
set_option maxHeartbeats 2000000 in
theorem same_true (x y : Con) (w : World) (hx : ConOk w x) (hy : ConOk w y) (hd : x.d = y.d) :
    Calls Try.prog 14 #[x.agg, y.agg] w fun e w' => e = .returned (.bool true) ∧ Below w.heap.size w w' := by
  have HX := Lib.hid hx
  have HY := Lib.hid hy
  obtain ⟨n1, k1, b1, d1, t1, w1, p1, r1, s1, o1, ea1, ec1, es1⟩ := x
  obtain ⟨n2, k2, b2, d2, t2, w2, p2, r2, s2, o2, ea2, ec2, es2⟩ := y
  simp only [Con.d, Prod.mk.injEq] at hd
  obtain ⟨⟨rfl, rfl, rfl, rfl, rfl⟩, ⟨rfl, rfl, rfl, rfl, rfl⟩, hes⟩ := hd
  have hlen : es2.length = es1.length := by have := congrArg List.length hes; simpa using this.symm
  have HE := Lib.hid hes
  have HLN := Lib.hid hlen
  have hm : es1.length ≤ 2513169434843 := hx.mx
  have e1 : (n1 != n1) = false := by simp
  have e2 : (k1 != k1) = false := by simp
  have e3 : (b1 != b1) = false := by simp
  have e4 : (d1 != d1) = false := by simp
  have e5 : (t1 != t1) = false := by simp
  have e6 : (w1 != w1) = false := by simp
  have e7 : (p1 != p1) = false := by simp
  have e8 : (r1 != r1) = false := by simp
  have e9 : (s1 != s1) = false := by simp
  have e10 : (o1 != o1) = false := by simp
  have e11 : ((es1.length : Int) != (es1.length : Int)) = false := by simp
  unfold Con.agg
  simp only [hlen]
  clear hx hy hes hlen
  go_enter Try.func14, Try.ntmps14
  go_wp2
  refine wp_world (fun W => Below w.heap.size w W ∧ W.heap[w.heap.size]? = some (.cells #[.int .i64 n1, .int .i64 k1, .int .i64 b1, .int .i64 d1, .int .i64 t1, .int .i64 w1, .int .u64 p1, .int .u64 r1, .int .u64 s1, .int .i64 o1, .slice ea1 es1.length ec1] 25) ∧
      W.heap[w.heap.size + 1]? = some (.cells #[.int .i64 n1, .int .i64 k1, .int .i64 b1, .int .i64 d1, .int .i64 t1, .int .i64 w1, .int .u64 p1, .int .u64 r1, .int .u64 s1, .int .i64 o1, .slice ea2 es1.length ec2] 25))
    ⟨((Below.refl _ _).alloc (Nat.le_refl _) _).alloc (by simp) _, alloc_old (alloc_at rfl), alloc_at (by simp)⟩ ?_
  intro W hw
  have HW := Lib.hid hw
  clear hw e1 e2 e3 e4 e5 e6 e7 e8 e9 e10 e11
  go_loopw [5] (fun i wr => ∃ k : Nat, k ≤ es1.length ∧ i = .int .i64 k ∧ Below w.heap.size w wr ∧ wr.heap[w.heap.size]? = some (.cells #[.int .i64 n1, .int .i64 k1, .int .i64 b1, .int .i64 d1, .int .i64 t1, .int .i64 w1, .int .u64 p1, .int .u64 r1, .int .u64 s1, .int .i64 o1, .slice ea1 es1.length ec1] 25) ∧
      wr.heap[w.heap.size + 1]? = some (.cells #[.int .i64 n1, .int .i64 k1, .int .i64 b1, .int .i64 d1, .int .i64 t1, .int .i64 w1, .int .u64 p1, .int .u64 r1, .int .u64 s1, .int .i64 o1, .slice ea2 es1.length ec2] 25)) (fun i _ => es1.length - (intOf i).toNat)
  case atStart => exact ⟨0, by omega, rfl, HW.out⟩
  case round =>
    clear HW
    obtain ⟨k, hk, rfl, hb, hr1, hr2⟩ := hrel
    have HW := Lib.hid (And.intro hb (And.intro hr1 hr2))
    have z1 : wr.cell? ⟨w.heap.size, 10, none⟩ = some (.slice ea1 es1.length ec1) := by rw [cell_of_row _ _ _ _ _ _ hr1]; rfl
    clear hb hr1 hr2
    by_cases hlt : k < es1.length
    · have t0 : decide ((k : Int) < (es1.length : Int)) = true := by simp; omega
      have i1 : (k : Int) < (es1.length : Int) := by omega
      have hlt2 : k < es2.length := by rw [HLN.out]; exact hlt
      have hdk : es1[k].d = es2[k].d := by
        have := congrArg (fun l => l[k]?) HE.out
        simp only [List.getElem?_map, List.getElem?_eq_getElem hlt, List.getElem?_eq_getElem hlt2, Option.map_some] at this
        exact Option.some.inj this
      obtain ⟨p1', q1', hea1, _⟩ := HX.out.ent k hlt
      obtain ⟨p2', q2', hea2, _⟩ := HY.out.ent k hlt2
      simp only at hea1 hea2
      subst hea1 hea2
      have HC := Lib.hid (show ∀ V : World, Below w.heap.size w V → Calls Try.prog 28 #[es1[k].agg, es2[k].agg] V fun e w' => e = .returned (.bool true) ∧ Below V.heap.size V w' from
        fun V hV => entry_true es1[k] es2[k] V ((HX.out.ents _ (List.getElem_mem hlt)).kept hV) ((HY.out.ents _ (List.getElem_mem hlt2)).kept hV) hdk)
      have HF1 := Lib.hid (show ∀ V : World, Below w.heap.size w V → _ from fun V hV => (HX.out.kept hV).ent k hlt)
      have HF2 := Lib.hid (show ∀ V : World, Below w.heap.size w V → _ from fun V hV => (HY.out.kept hV).ent k hlt2)
      unfold Ent.agg at HC
      clear hdk
      generalize es1[k] = x1 at *
      generalize es2[k] = x2 at *
      go_wp2
      refine wp_region_inv 12 (fun V => Below w.heap.size w V ∧ V.heap[w.heap.size]? = some (.cells #[.int .i64 n1, .int .i64 k1, .int .i64 b1, .int .i64 d1, .int .i64 t1, .int .i64 w1, .int .u64 p1, .int .u64 r1, .int .u64 s1, .int .i64 o1, .slice (some ⟨p1', q1', none⟩) es1.length ec1] 25) ∧
        V.heap[w.heap.size + 1]? = some (.cells #[.int .i64 n1, .int .i64 k1, .int .i64 b1, .int .i64 d1, .int .i64 t1, .int .i64 w1, .int .u64 p1, .int .u64 r1, .int .u64 s1, .int .i64 o1, .slice (some ⟨p2', q2', none⟩) es1.length ec2] 25)) (by kernel_rfl) (by kernel_rfl) (fun _ => ⟨below_drawn HW.out.1 _, HW.out.2⟩) ?_
      simp only [List.take_succ_cons, List.take_zero]
      iterate 12
        apply wpInv_cons
        · rfl
        · intro Wx hw
          have z1 : Wx.cell? ⟨w.heap.size, 10, none⟩ = some (.slice (some ⟨p1', q1', none⟩) es1.length ec1) := by rw [cell_of_row _ _ _ _ _ _ hw.2.1]; rfl
          have z2 : Wx.cell? ⟨w.heap.size + 1, 10, none⟩ = some (.slice (some ⟨p2', q2', none⟩) es1.length ec2) := by rw [cell_of_row _ _ _ _ _ _ hw.2.2]; rfl
          obtain ⟨_, _, hq1, f0, f1, f2, f3, f4⟩ := HF1.out Wx hw.1
          cases hq1
          obtain ⟨_, _, hq2, g0, g1, g2, g3, g4⟩ := HF2.out Wx hw.1
          cases hq2
          go_simp
          first
            | exact ⟨hw, rfl⟩
            | (show Calls _ _ _ _ _; with_reducible exact (HC.out _ hw.1).mono (fun e w' ⟨he, hb⟩ => ⟨he, hw.1.trans (hb.mono hw.1.size), row_kept hw.2.1 hb, row_kept hw.2.2 hb⟩))
        simp only [Act.put, List.setIfInBounds_toArray, List.set_cons_zero, List.set_cons_succ]
      refine wpInv_nil fun V hw => ?_
      simp only [List.drop_succ_cons, List.drop_zero]
      have HV := Lib.hid hw
      clear hw
      go_wp2
      go_roundw
      case rel => exact ⟨k + 1, by omega, by go_num, HV.out⟩
      case measure => simp [intOf]; omega
    · have t0 : decide ((k : Int) < (es1.length : Int)) = false := by simp; omega
      go_wp2
      go_ret
      exact ⟨rfl, HW.out.1⟩
end Go.Proofs.Ytiafhgcnjgpeaaa
