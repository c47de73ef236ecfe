/-
  Layer 18: what a list of deals makes of an index; hear.
-/
import Derived.Test.YthadfopkacbnlaaPb
import Derived.Test.YthadfopkacbnlaaTc
import Derived.Test.YthadfopkacbnlaaReg2
namespace Go.Proofs.Ythadfopkacbnlaa
open Go.RowKit Go.K
set_option linter.unusedVariables false
set_option linter.unusedSimpArgs false
attribute [local go_sem] run_store_float
/-- A deal as it is handed in. -/
structure Dl where
  kind : Int
  price : Nat
  tick : Int
def Dl.cells (d : Dl) : List Value := [.int .i64 d.kind, .int .u64 (d.price : Int), .int .i64 d.tick]
def dFlat (l : List Dl) : List Value := l.flatMap Dl.cells
theorem dFlat_length (l : List Dl) : (dFlat l).length = l.length * 3 := by
  induction l with
  | nil => rfl
  | cons e l ih => show (e.cells ++ dFlat l).length = _; rw [List.length_append, ih]; simp [Dl.cells]; omega
theorem dFlat_append (l m : List Dl) : dFlat (l ++ m) = dFlat l ++ dFlat m := by simp [dFlat]
theorem dFlat_get (l : List Dl) (i j : Nat) (h : i < l.length) (hj : j < 3) : (dFlat l)[i * 3 + j]? = l[i].cells[j]? := by
  have e1 : l = l.take i ++ l[i] :: l.drop (i + 1) := by rw [← List.drop_eq_getElem_cons h, List.take_append_drop]
  have h1 : dFlat l = dFlat (l.take i) ++ (l[i].cells ++ dFlat (l.drop (i + 1))) := by
    conv => lhs; rw [e1]
    rw [dFlat_append]; rfl
  rw [h1, List.getElem?_append_right (by rw [dFlat_length, List.length_take]; omega), dFlat_length, List.length_take, Nat.min_eq_left (by omega), show i * 3 + j - i * 3 = j by omega, List.getElem?_append_left (by simpa [Dl.cells] using hj)]
/-- The cells of deal number i. -/
theorem deal_at {W : World} {a : Option Addr} {l : List Dl} (h : Sl W a (dFlat l)) (i : Nat) (hi : i < l.length) : ∃ b off, a = some ⟨b, off, none⟩ ∧
    W.cell? ⟨b, off + i * 3, none⟩ = some (.int .i64 l[i].kind) ∧ W.cell? ⟨b, off + i * 3 + 1, none⟩ = some (.int .u64 (l[i].price : Int)) ∧ W.cell? ⟨b, off + i * 3 + 2, none⟩ = some (.int .i64 l[i].tick) := by
  have hl := dFlat_length l
  obtain ⟨b, off, he, hc⟩ := h (fun e => by rw [e] at hl; simp at hl; omega)
  refine ⟨b, off, he, ?_, ?_, ?_⟩
  · have := hc (i * 3 + 0) (by omega)
    rw [dFlat_get _ i 0 hi (by omega)] at this; exact this
  · have := hc (i * 3 + 1) (by omega)
    rw [dFlat_get _ i 1 hi (by omega)] at this; rw [Nat.add_assoc]; exact this
  · have := hc (i * 3 + 2) (by omega)
    rw [dFlat_get _ i 2 hi (by omega)] at this; rw [Nat.add_assoc]; exact this
def Dl.k (d : Dl) : Nat := (plc d.kind 16).toNat
def Dl.t (d : Dl) : Nat := (plc d.tick 1099511627777).toNat
theorem Dl.k_lt (d : Dl) : d.k < 16 := by have := plc_lo (x := d.kind) (n := 16) (by decide); unfold Dl.k; omega
theorem Dl.k_eq (d : Dl) : plc d.kind 16 = (d.k : Int) := by have := plc_lo (x := d.kind) (n := 16) (by decide); unfold Dl.k; omega
theorem Dl.t_le (d : Dl) : d.t ≤ 1099511627776 := by have := plc_lo (x := d.tick) (n := 1099511627777) (by decide); unfold Dl.t; omega
theorem Dl.t_eq (d : Dl) : plc d.tick 1099511627777 = (d.t : Int) := by have := plc_lo (x := d.tick) (n := 1099511627777) (by decide); unfold Dl.t; omega
def hstep (L : Nat → Ln) (d : Dl) : Nat → Ln := setL L d.k (dealLn (L d.k) d.price (d.t / 64 % 8))
def hearL (l : List Dl) : Nat → Ln := l.foldl hstep (fun _ => lnZ)
theorem hearL_snoc (l : List Dl) (d : Dl) : hearL (l ++ [d]) = hstep (hearL l) d := by unfold hearL; rw [List.foldl_append]; rfl
theorem hearL_take (l : List Dl) {i : Nat} (h : i < l.length) : hearL (l.take (i + 1)) = hstep (hearL (l.take i)) l[i] := by
  rw [List.take_succ_eq_append_getElem h, hearL_snoc]
/-- What every line keeps: finite reals. -/
structure Good (x : Ln) (m : Nat) : Prop where
  d0 : 0 ≤ x.deals
  d1 : x.deals ≤ m
  avg : x.avg ≤ 1602224128
  spr : x.spr ≤ 1602224128
  day : ∀ h, x.day h ≤ 1602224128
theorem half_ok : ∀ v, v = 150 → fl.V 1056964608 * 2 ≤ 2 ^ v * 2 ^ v := fun v h => fl.V_half h
theorem eighth_ok : ∀ v, v = 150 → fl.V 1040187392 * 2 ≤ 2 ^ v * 2 ^ v := fun v h => fl.V_eighth h
theorem far_le {p a b : Nat} (hb : b < 2139095040) (hp : p ≤ b) (ha : a ≤ b) : farW p a ≤ b := by
  rw [(fl.far (p := p) (a := a) (by omega) (by omega)).2]
  split
  · exact fl.N_le (by omega) (Nat.le_trans (Nat.sub_le _ _) (fl.V_mono hp (by omega)))
  · exact fl.N_le (by omega) (Nat.le_trans (Nat.sub_le _ _) (fl.V_mono ha (by omega)))
theorem Good.deal {x : Ln} {m : Nat} (h : Good x m) {n : Nat} (hn : n < 18446744073709551616) (hh : Nat) : Good (dealLn x n hh) (m + 1) := by
  have hf := fl.fuW_le hn
  refine ⟨?_, ?_, ?_, ?_, fun q => ?_⟩
  · have := h.d0; show 0 ≤ x.deals + 1; omega
  · have := h.d1; show x.deals + 1 ≤ _; omega
  · show (if x.deals = 0 then fuW n else smV x.avg (fuW n) 1040187392) ≤ _
    split
    · exact hf
    · exact (fl.smV_in (a := 0) (by decide) (by decide) eighth_ok ⟨Nat.zero_le _, h.avg⟩ ⟨Nat.zero_le _, hf⟩).2
  · show (if x.deals = 0 then x.spr else smV x.spr (farW (fuW n) x.avg) 1040187392) ≤ _
    split
    · exact h.spr
    · exact (fl.smV_in (a := 0) (by decide) (by decide) eighth_ok ⟨Nat.zero_le _, h.spr⟩ ⟨Nat.zero_le _, far_le (by decide) hf h.avg⟩).2
  · show (if q = hh then (if x.has hh then smV (x.day hh) (fuW n) 1056964608 else fuW n) else x.day q) ≤ _
    split
    · split
      · exact (fl.smV_in (a := 0) (by decide) (by decide) half_ok ⟨Nat.zero_le _, h.day hh⟩ ⟨Nat.zero_le _, hf⟩).2
      · exact hf
    · exact h.day q
theorem Good.more {x : Ln} {m n : Nat} (h : Good x m) (hm : m ≤ n) : Good x n := ⟨h.d0, by have := h.d1; omega, h.avg, h.spr, h.day⟩
theorem good_z (m : Nat) : Good lnZ m := ⟨Int.le_refl _, by show (0 : Int) ≤ m; omega, by decide, by decide, fun _ => by show 0 ≤ _; omega⟩
theorem good_step {L : Nat → Ln} {m : Nat} (h : ∀ k, Good (L k) m) (d : Dl) (hd : d.price < 18446744073709551616) (k : Nat) : Good (hstep L d k) (m + 1) := by
  unfold hstep setL
  split
  · exact (h _).deal hd _
  · exact (h k).more (by omega)
theorem hearL_good (l : List Dl) (hp : ∀ d ∈ l, d.price < 18446744073709551616) : ∀ k, Good (hearL l k) l.length := by
  have key : ∀ (l : List Dl) (L : Nat → Ln) (m : Nat), (∀ d ∈ l, d.price < 18446744073709551616) → (∀ k, Good (L k) m) → ∀ k, Good (l.foldl hstep L k) (m + l.length) := by
    intro l
    induction l with
    | nil => intro L m _ h k; exact h k
    | cons d l ih =>
      intro L m hp h k
      have := ih (hstep L d) (m + 1) (fun x hx => hp x (List.mem_cons_of_mem _ hx)) (fun k => good_step h d (hp d List.mem_cons_self) k) k
      rw [List.foldl_cons, List.length_cons, show m + (l.length + 1) = m + 1 + l.length by omega]
      exact this
  intro k
  have := key l (fun _ => lnZ) 0 hp (fun _ => good_z 0) k
  rw [Nat.zero_add] at this
  exact this
theorem Good.fin {x : Ln} {m : Nat} (h : Good x m) {n : Nat} (hn : n < 18446744073709551616) : ¬ FloatKind.f32.format.order (n03.opW (Ieee.single.sub (fuW n) x.avg)) (n03.opW (Ieee.single.sub x.avg (fuW n))) = none := by
  have := fl.fuW_le hn
  have := h.avg
  exact (fl.far (p := fuW n) (a := x.avg) (by omega) (by omega)).1
set_option maxRecDepth 100000 in
set_option maxHeartbeats 4000000 in
theorem hear_any (a : Option Addr) (c : Nat) (l : List Dl) (w : World) (hl : l.length < 281474976710656) (hp : ∀ d ∈ l, d.price < 18446744073709551616) (h : Sl w a (dFlat l)) :
    Calls Try.prog 9 #[.slice a l.length c] w fun r w' => r = .returned (.pointer (some ⟨w.heap.size, 0, none⟩)) ∧ Ix w' w.heap.size (hearL l) ∧ Below w.heap.size w w' := by
  have H := Lib.hid h
  have HP := Lib.hid hp
  have HG := Lib.hid (fun i => hearL_good (l.take i) (fun d hd => hp d (List.mem_of_mem_take hd)))
  clear h hp
  go_enter Try.func9, Try.ntmps9
  go_wp2_with fail
  refine (new_any w).mono ?_
  rintro r0 w1 ⟨rfl, hi1, hb1⟩
  obtain ⟨g, hg⟩ : ∃ g, g = w.heap.size := ⟨_, rfl⟩
  rw [← hg] at hi1 ⊢
  have HGE := Lib.hid hg
  have HI1 := Lib.hid hi1
  have HB1 := Lib.hid hb1
  clear hi1 hb1 hg
  go_wp2
  go_loopw [4] (fun i V => ∃ k : Nat, k ≤ l.length ∧ i = .int .i64 k ∧ Ix V g (hearL (l.take k)) ∧ Below w.heap.size w V) (fun i _ => l.length - (intOf i).toNat)
  case atStart => exact ⟨0, Nat.zero_le _, rfl, HI1.out, HB1.out⟩
  case round =>
    clear HI1 HB1
    obtain ⟨k, hk, rfl, hi, hb⟩ := hrel
    have HI := Lib.hid hi
    have HB := Lib.hid hb
    clear hi hb
    by_cases hlt : k < l.length
    · have t0 : decide ((k : Int) < (l.length : Int)) = true := by simp; omega
      obtain ⟨b, off, ha, c0, c1, c2⟩ := deal_at H.out k hlt
      subst ha
      obtain ⟨d, hd⟩ : ∃ d, d = l[k] := ⟨_, rfl⟩
      rw [← hd] at c0 c1 c2
      have HC := Lib.hid (fun (V : World) (h : Below w.heap.size w V) => show V.cell? ⟨b, off + k * 3, none⟩ = some (.int .i64 d.kind) ∧ V.cell? ⟨b, off + k * 3 + 1, none⟩ = some (.int .u64 (d.price : Int)) ∧ V.cell? ⟨b, off + k * 3 + 2, none⟩ = some (.int .i64 d.tick) from ⟨below_cell h c0, below_cell h c1, below_cell h c2⟩)
      have HD := Lib.hid hd
      have ik : (k : Int) < (l.length : Int) := by omega
      have ti : IntKind.i64.wrap ((k : Int) + 1) = ((k + 1 : Nat) : Int) := by rw [IntKind.wrap_i64]; omega
      have HLT := Lib.hid hlt
      have HPK := Lib.hid (show d.price < 18446744073709551616 from by rw [hd]; exact HP.out _ (List.getElem_mem _))
      have HPL := Lib.hid (show ∀ V, (Ix V g (hearL (l.take k)) ∧ Below w.heap.size w V) → Calls Try.prog 15 #[.int .i64 d.kind, .int .i64 16] V fun r V' => r = .returned (.int .i64 (d.k : Int)) ∧ (Ix V' g (hearL (l.take k)) ∧ Below w.heap.size w V') from fun V hV => by rw [← Dl.k_eq]; exact (place_any d.kind 16 V (by decide) (by decide)).mono fun r V' h => ⟨h.1, h.2 ▸ hV⟩)
      have HPT := Lib.hid (show ∀ V, (Ix V g (hearL (l.take k)) ∧ Below w.heap.size w V) → Calls Try.prog 15 #[.int .i64 d.tick, .int .i64 1099511627777] V fun r V' => r = .returned (.int .i64 (d.t : Int)) ∧ (Ix V' g (hearL (l.take k)) ∧ Below w.heap.size w V') from fun V hV => by rw [← Dl.t_eq]; exact (place_any d.tick 1099511627777 V (by decide) (by decide)).mono fun r V' h => ⟨h.1, h.2 ▸ hV⟩)
      have HDL := Lib.hid (fun (V : World) (hV : Ix V g (hearL (l.take k)) ∧ Below w.heap.size w V) => show Calls Try.prog 17 #[.pointer (some ⟨g, 0, none⟩), .int .i64 (d.k : Int), .int .u64 (d.price : Int), .int .i64 (d.t : Int)] V fun r w' => r = .returned (.int .i64 0) ∧ (Ix w' g (hearL (l.take (k + 1))) ∧ Below w.heap.size w w') from
        (deal_any g d.k d.price d.t (hearL (l.take k)) V d.k_lt d.t_le ⟨(HG.out k d.k).d0, by
          have h1 := (HG.out k d.k).d1
          have h2 : (l.take k).length ≤ l.length := by rw [List.length_take]; omega
          omega⟩ HPK.out (fun _ => (HG.out k d.k).fin HPK.out) hV.1).mono fun r w' ⟨h1, h2, h3⟩ => ⟨h1, by rw [hearL_take l HLT.out, ← HD.out]; exact h2, hV.2.trans (h3.below hV.2.size (fun x hx => by rw [hx, HGE.out]; exact Nat.le_refl _))⟩)
      clear c0 c1 c2 hd
      go_upto_region 5 with fail
      refine wp_region_inv2 18 (fun V => Ix V g (hearL (l.take k)) ∧ Below w.heap.size w V) (by kernel_rfl) (by kernel_rfl) (fun m => ⟨HI.out.kept (below_drawn (Below.refl _ _) m), HB.out.trans (below_drawn (Below.refl _ _) m)⟩) ?_
      simp only [List.take_succ_cons, List.take_zero]
      iterate 18
        apply wpInv_cons
        · rfl
        · intro Wx hw
          obtain ⟨x0, x1, x2⟩ := HC.out Wx hw.2
          first
            | (go_simp; exact ⟨hw, rfl⟩)
            | (go_simp; show Calls _ _ _ _ _; with_reducible exact HPL.out _ hw)
            | (go_simp; show Calls _ _ _ _ _; with_reducible exact HPT.out _ hw)
        simp only [Act.put, List.setIfInBounds_toArray, List.set_cons_zero, List.set_cons_succ]
      refine wpInv_nil fun V3 hV => ?_
      have HV3 := Lib.hid hV
      clear hV
      simp only [List.drop_succ_cons, List.drop_zero]
      go_wp2_with fail
      refine (HDL.out V3 HV3.out).mono ?_
      rintro r0 V4 ⟨rfl, hv4⟩
      have HV4 := Lib.hid hv4
      clear hv4
      go_wp2_with fail
      refine (num_any 0 V4).mono ?_
      rintro r0 V5 ⟨rfl, rfl⟩
      go_wp2
      go_roundw
      case rel => exact ⟨k + 1, HLT.out, by go_num, HV4.out.1, HV4.out.2⟩
      case measure => have := HLT.out; simp only [intOf]; omega
    · have hkl : k = l.length := by omega
      subst hkl
      have t0 : decide ((l.length : Int) < (l.length : Int)) = false := by simp
      rw [List.take_length] at HI
      go_wp2
      go_ret
      have := HGE.out
      subst this
      exact ⟨rfl, HI.out, HB.out⟩
end Go.Proofs.Ythadfopkacbnlaa
