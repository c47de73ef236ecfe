/-
  Layer 18: a new index; a deal.
-/
import Derived.Test.YthadfopkacbnlaaTa
import Derived.Test.YthadfopkacbnlaaReg2
import Derived.Deep.RegionWith
namespace Go.Proofs.Ythadfopkacbnlaa
open Go.RowKit Go.K
set_option linter.unusedVariables false
set_option linter.unusedSimpArgs false
attribute [local go_sem] run_store_float
theorem zero73 : Try.zeroCells73.toList = (List.range 336).map (fun k => lnZ.cell (k % 21)) := by kernel_rfl
theorem new_any (w : World) : Calls Try.prog 14 #[] w fun r w' => r = .returned (.pointer (some ⟨w.heap.size, 0, none⟩)) ∧ Ix w' w.heap.size (fun _ => lnZ) ∧ Below w.heap.size w w' := by
  go_enter Try.func14, Try.ntmps14
  go_wp2
  go_ret
  refine ⟨rfl, ⟨_, alloc_at rfl, ?_, fun k v e => ?_⟩, (Below.refl _ _).alloc (Nat.le_refl _) _⟩
  · have := congrArg List.length zero73
    simpa only [Array.length_toList, List.length_map, List.length_range] using this
  · unfold ixF at e
    split at e
    · rename_i h
      rw [← Array.getElem?_toList, zero73, List.getElem?_map, List.getElem?_range h]; exact e
    · cases e
theorem only_set {W : World} {g k : Nat} {v : Value} : Only (fun x => x = g) W (W.setCell ⟨g, k, none⟩ v) := Only.of_grown (grown_set (grown_below (Below.refl _ _) _) k v) (fun x hx => by injection hx with e; exact e.symm)
def fuW (n : Nat) : Nat := Ieee.single.nearest false n 0
def smV (x y p : Nat) : Nat := n03.opW (Ieee.single.add x (n03.opW (Ieee.single.mul (n03.opW (Ieee.single.sub y x)) p)))
def maxW (x y : Nat) : Nat := match FloatKind.f32.format.order x y with
  | none => 2143289344
  | some .lt => y
  | some .gt => x
  | some .eq => if (FloatKind.f32.decode x).neg then y else x
theorem max_run {x y : Nat} (h : ¬ FloatKind.f32.format.order x y = none) (W : World) : (Builtin.max_ #[29, 29] 29 #[.float .f32 x, .float .f32 y]).run Try.prog W = .ok (.float .f32 (maxW x y)) W := by
  show (Builtin.max2 (.float .f32 x) (.float .f32 y) >>= pure).run Try.prog W = _
  unfold Builtin.max2 maxW
  cases hc : FloatKind.f32.format.order x y with
  | none => exact absurd hc h
  | some o => cases o <;> simp [hc]
def farW (p a : Nat) : Nat := maxW (n03.opW (Ieee.single.sub p a)) (n03.opW (Ieee.single.sub a p))
def dealLn (x : Ln) (n : Nat) (h : Nat) : Ln :=
  ⟨x.deals + 1, if x.deals = 0 then fuW n else smV x.avg (fuW n) 1040187392, if x.deals = 0 then x.spr else smV x.spr (farW (fuW n) x.avg) 1040187392,
    if x.deals = 0 then n else if (n : Int) < x.low then n else x.low, if x.deals = 0 then n else if x.high < (n : Int) then n else x.high, fun j => if j = h then (if x.has h then smV (x.day h) (fuW n) 1056964608 else fuW n) else x.day j, fun j => if j = h then true else x.has j⟩
set_option maxRecDepth 100000 in
set_option maxHeartbeats 4000000 in
theorem deal_any (g k n : Nat) (t : Nat) (L : Nat → Ln) (w : World) (hk : k < 16) (ht : t ≤ 1099511627776) (hd : 0 ≤ (L k).deals ∧ (L k).deals < 4611686018427387904) (hn : n < 18446744073709551616) (hfin : (L k).deals ≠ 0 → ¬ FloatKind.f32.format.order (n03.opW (Ieee.single.sub (fuW n) (L k).avg)) (n03.opW (Ieee.single.sub (L k).avg (fuW n))) = none) (h : Ix w g L) :
    Calls Try.prog 17 #[.pointer (some ⟨g, 0, none⟩), .int .i64 (k : Int), .int .u64 (n : Int), .int .i64 (t : Int)] w fun r w' => r = .returned (.int .i64 0) ∧ Ix w' g (setL L k (dealLn (L k) n (t / 64 % 8))) ∧ Only (fun x => x = g) w w' := by
  have H := Lib.hid h
  have HFIN0 := Lib.hid hfin
  clear hfin
  have t1 : decide ((t : Int) < 0) = false := by simp
  have t2 : decide ((t : Int) > 1099511627776) = false := by simp; omega
  have z0 := (h.five hk).1
  clear h
  go_enter Try.func17, Try.ntmps17
  go_wp2_with fail
  refine (of_any g k w hk).mono ?_
  rintro r0 w1 ⟨rfl, rfl⟩
  go_wp2_with fail
  refine (n03.pfu_any n w).mono ?_
  rintro r0 w1 ⟨rfl, rfl⟩
  rw [show Ieee.single.nearest false n 0 = fuW n from rfl]
  obtain ⟨f, hf⟩ : ∃ f, f = fuW n := ⟨_, rfl⟩
  rw [← hf]
  have HFU := Lib.hid hf
  obtain ⟨d, hde⟩ : ∃ d, d = (L k).deals := ⟨_, rfl⟩
  rw [← hde] at z0 hd
  have HDE := Lib.hid hde
  clear hf hde t1 t2
  obtain ⟨y, hy⟩ : ∃ y : Ln, y = { L k with avg := (dealLn (L k) n (t / 64 % 8)).avg, spr := (dealLn (L k) n (t / 64 % 8)).spr, low := (dealLn (L k) n (t / 64 % 8)).low, high := (dealLn (L k) n (t / 64 % 8)).high } := ⟨_, rfl⟩
  have HY := Lib.hid hy
  clear hy
  go_upto_if 37 with fail
  go_cut [12] (fun s12 W' => Ix W' g (setL L k y) ∧ Only (fun x => x = g) w W')
  case first =>
    by_cases h0 : d = 0
    · subst h0
      obtain ⟨u1, hu1⟩ : ∃ u, w.cell? ⟨g, k * 21 + 1, none⟩ = some u := ⟨_, H.out.cell hk (j := 1) (by decide)⟩
      obtain ⟨u3, hu3⟩ : ∃ u, w.cell? ⟨g, k * 21 + 3, none⟩ = some u := ⟨_, H.out.cell hk (j := 3) (by decide)⟩
      obtain ⟨u4, hu4⟩ : ∃ u, w.cell? ⟨g, k * 21 + 4, none⟩ = some u := ⟨_, H.out.cell hk (j := 4) (by decide)⟩
      have f1 := H.out.frozen (k * 21 + 1)
      have f3 := H.out.frozen (k * 21 + 3)
      have f4 := H.out.frozen (k * 21 + 4)
      go_wp2_with fail
      go_meet
      refine ⟨?_, ((only_set.trans only_set (fun x hx => .inl hx)).trans only_set (fun x hx => .inl hx))⟩
      have e1 := H.out.put (x := { L k with avg := f }) hk (j := 1) (v := .float .f32 f) (by decide) rfl (fun r hr hne => Ln.c1 _ _ hne)
      have e3 := e1.put2 (y := { L k with avg := f, low := n }) hk (j := 3) (v := .int .u64 n) (by decide) rfl (fun r hr hne => Ln.c3 { L k with avg := f } _ hne)
      have e4 := e3.put2 (y := { L k with avg := f, low := n, high := n }) hk (j := 4) (v := .int .u64 n) (by decide) rfl (fun r hr hne => Ln.c4 { L k with avg := f, low := n } _ hne)
      have e : y = { L k with avg := f, low := n, high := n } := by rw [HY.out, HFU.out]; unfold dealLn; simp only [← HDE.out, if_true]
      rw [e]; exact e4
    · have c0 : (d == 0) = false := by rw [beq_eq_false_iff_ne]; exact h0
      have HN0 := Lib.hid h0
      clear h0 z0
      obtain ⟨v, hv⟩ : ∃ v, v = (L k).avg := ⟨_, rfl⟩
      obtain ⟨s, hs⟩ : ∃ s, s = (L k).spr := ⟨_, rfl⟩
      obtain ⟨d1, hd1⟩ : ∃ d1, d1 = n03.opW (Ieee.single.sub f v) := ⟨_, rfl⟩
      obtain ⟨d2, hd2⟩ : ∃ d2, d2 = n03.opW (Ieee.single.sub v f) := ⟨_, rfl⟩
      have HS1 := Lib.hid (fun V => show Calls Try.prog 23 #[.float .f32 f, .float .f32 v] V fun r w' => r = .returned (.float .f32 d1) ∧ Qt V w' from by rw [hd1]; exact n03.psub_any f v V)
      have HS2 := Lib.hid (fun V => show Calls Try.prog 23 #[.float .f32 v, .float .f32 f] V fun r w' => r = .returned (.float .f32 d2) ∧ Qt V w' from by rw [hd2]; exact n03.psub_any v f V)
      have z1 := (H.out.five hk).2.1
      have z2 := (H.out.five hk).2.2.1
      rw [← hv] at z1
      rw [← hs] at z2
      have HPV := Lib.hid (fun (W : World) (h : Ix W g L) => show W.cell? ⟨g, k * 21 + 1, none⟩ = some (.float .f32 v) ∧ W.cell? ⟨g, k * 21 + 2, none⟩ = some (.float .f32 s) ∧ W.frozen? ⟨g, k * 21 + 2, none⟩ = false from by rw [hv, hs]; exact ⟨(h.five hk).2.1, (h.five hk).2.2.1, h.frozen _⟩)
      have HD := Lib.hid (show Ix w.drew g L from H.out.kept (below_drawn (Below.refl _ _) _))
      have HV := Lib.hid (And.intro hv (And.intro hs (And.intro hd1 hd2)))
      have f2 := H.out.frozen (k * 21 + 2)
      clear hv hs hd1 hd2
      go_upto_region 9 with fail
      by_cases hord : FloatKind.f32.format.order d1 d2 = none
      · exact absurd (by rw [← HV.out.1, ← HFU.out, ← HV.out.2.2.1, ← HV.out.2.2.2]; exact hord) (HFIN0.out (by rw [← HDE.out]; exact HN0.out))
      · have hmax : ∀ W, (Builtin.max_ #[29, 29] 29 #[.float .f32 d1, .float .f32 d2]).run Try.prog W = .ok (.float .f32 (maxW d1 d2)) W := max_run hord
        clear hord
        have hC : ∀ V V' : World, Ix V g L ∧ Only (fun x => x = g) w V → Qt V V' → Ix V' g L ∧ Only (fun x => x = g) w V' := fun V V' h hq => ⟨h.1.kept (hq.below _), h.2.trans (Only.of_below (S := fun x => x = g) (hq.below _)) (fun k hk => .inl hk)⟩
        have HA := Lib.hid (show ∀ V, Ix V g L ∧ Only (fun x => x = g) w V → Calls Try.prog 23 #[.float .f32 f, .float .f32 v] V fun r V' => r = .returned (.float .f32 d1) ∧ (Ix V' g L ∧ Only (fun x => x = g) w V') from fun V h => (HS1.out V).mono fun r V' ⟨h1, h2⟩ => ⟨h1, hC V V' h h2⟩)
        have HB := Lib.hid (show ∀ V, Ix V g L ∧ Only (fun x => x = g) w V → Calls Try.prog 23 #[.float .f32 v, .float .f32 f] V fun r V' => r = .returned (.float .f32 d2) ∧ (Ix V' g L ∧ Only (fun x => x = g) w V') from fun V h => (HS2.out V).mono fun r V' ⟨h1, h2⟩ => ⟨h1, hC V V' h h2⟩)
        have HE := Lib.hid (show ∀ V, Ix V g L ∧ Only (fun x => x = g) w V → Calls Try.prog 30 #[.float .f32 s, .float .f32 (maxW d1 d2), .float .f32 1040187392] V fun r V' => r = .returned (.float .f32 (smV s (maxW d1 d2) 1040187392)) ∧ (Ix V' g L ∧ Only (fun x => x = g) w V') from fun V h => (smooth_any _ _ _ V).mono fun r V' ⟨h1, h2⟩ => ⟨h1, hC V V' h h2⟩)
        have HFA := Lib.hid (show ∀ V, Calls Try.prog 30 #[.float .f32 v, .float .f32 f, .float .f32 1040187392] V fun r V' => r = .returned (.float .f32 (smV v f 1040187392)) ∧ Qt V V' from fun V => smooth_any _ _ _ V)
        clear hC HS1 HS2 z1 z2 f2
        refine wp_region_inv2 25 (fun V => Ix V g L ∧ Only (fun x => x = g) w V) (by kernel_rfl) (by kernel_rfl) (fun m => ⟨H.out.kept (below_drawn (Below.refl _ _) m), Only.of_below (below_drawn (Below.refl _ _) m)⟩) ?_
        simp only [List.take_succ_cons, List.take_zero]
        iterate 25
          apply wpInv_cons
          · rfl
          · intro Wx hw
            obtain ⟨j1, j2, j3⟩ := HPV.out Wx hw.1
            first
              | (go_simp; exact ⟨hw, rfl⟩)
              | (go_simp; show Calls _ _ _ _ _; with_reducible exact HA.out _ hw)
              | (go_simp; show Calls _ _ _ _ _; with_reducible exact HB.out _ hw)
              | (go_simp; show Calls _ _ _ _ _; with_reducible exact HE.out _ hw)
          simp only [Act.put, List.setIfInBounds_toArray, List.set_cons_zero, List.set_cons_succ]
        refine wpInv_nil fun V3 hV => ?_
        have HV3 := Lib.hid hV
        obtain ⟨j1, j2, j3⟩ := HPV.out V3 hV.1
        clear hV
        simp only [List.drop_succ_cons, List.drop_zero]
        go_upto_region 10 with fail
        obtain ⟨sp, hsp⟩ : ∃ sp, sp = smV s (maxW d1 d2) 1040187392 := ⟨_, rfl⟩
        rw [← hsp]
        have HSP := Lib.hid hsp
        refine wp_world (fun W => Ix W g (setL L k { L k with spr := sp }) ∧ Only (fun x => x = g) w W) ⟨HV3.out.1.put hk (j := 2) (by decide) rfl (fun r hr hne => Ln.c2 _ _ hne), HV3.out.2.trans only_set (fun x hx => .inl hx)⟩ ?_
        rintro W4 ⟨h4, ho4⟩
        have H4 := Lib.hid (And.intro h4 ho4)
        have z1 := (h4.five hk).2.1
        rw [setL_same] at z1
        rw [show ({ L k with spr := sp } : Ln).avg = v from HV.out.1.symm] at z1
        clear h4 ho4 j1 j2 j3 hsp hmax HV3 HA HB HE
        go_wp2_with fail
        refine (HFA.out W4).mono ?_
        rintro r0 W5 ⟨rfl, hq5⟩
        obtain ⟨av, hav⟩ : ∃ av, av = smV v f 1040187392 := ⟨_, rfl⟩
        rw [← hav]
        have HAV := Lib.hid hav
        have H5 := Lib.hid (show Ix W5 g (setL L k { L k with spr := sp }) ∧ Only (fun x => x = g) w W5 from ⟨H4.out.1.kept (hq5.below _), H4.out.2.trans (Only.of_below (S := fun x => x = g) (hq5.below _)) (fun k hk => .inl hk)⟩)
        obtain ⟨u1, hu1⟩ : ∃ u, W5.cell? ⟨g, k * 21 + 1, none⟩ = some u := ⟨_, H5.out.1.cell hk (j := 1) (by decide)⟩
        have f1 := H5.out.1.frozen (k * 21 + 1)
        clear hq5 hav z1 H4
        go_upto_region 11 with fail
        refine wp_world (fun W => Ix W g (setL L k { L k with spr := sp, avg := av }) ∧ Only (fun x => x = g) w W) ⟨H5.out.1.put2 hk (j := 1) (by decide) rfl (fun r hr hne => Ln.c1 { L k with spr := sp } _ hne), H5.out.2.trans only_set (fun x hx => .inl hx)⟩ ?_
        rintro W6 ⟨h6, ho6⟩
        have H6 := Lib.hid (And.intro h6 ho6)
        clear h6 ho6 hu1 f1 H5
        obtain ⟨lo, hlo⟩ : ∃ lo, lo = (L k).low := ⟨_, rfl⟩
        obtain ⟨hi, hhi⟩ : ∃ hi, hi = (L k).high := ⟨_, rfl⟩
        have HLH := Lib.hid (And.intro hlo hhi)
        have HP6 := Lib.hid (fun (W : World) (h : Ix W g (setL L k { L k with spr := sp, avg := av })) => show W.cell? ⟨g, k * 21 + 3, none⟩ = some (.int .u64 lo) ∧ W.cell? ⟨g, k * 21 + 4, none⟩ = some (.int .u64 hi) from by
          have h5 := (h.five hk).2.2.2
          rw [setL_same] at h5
          rw [hlo, hhi]; exact h5)
        clear hlo hhi
        obtain ⟨j1, j2⟩ := HP6.out W6 H6.out.1
        have f3 := H6.out.1.frozen (k * 21 + 3)
        have f4 := H6.out.1.frozen (k * 21 + 4)
        have j2' : ∀ v, (W6.setCell ⟨g, k * 21 + 3, none⟩ v).cell? ⟨g, k * 21 + 4, none⟩ = some (.int .u64 hi) := fun v => by
          rw [World.cell?_setCell_other (h := fun e => by injection e with e1 e2 e3; omega)]; exact j2
        have f4' : ∀ v, (W6.setCell ⟨g, k * 21 + 3, none⟩ v).frozen? ⟨g, k * 21 + 4, none⟩ = false := fun v => by rw [World.frozen?_setCell]; exact f4
        have e3 := fun (v u : Int) => (H6.out.1.put2 (y := { L k with spr := sp, avg := av, low := v }) hk (j := 3) (v := .int .u64 v) (by decide) rfl (fun r hr hne => Ln.c3 { L k with spr := sp, avg := av } _ hne)).put2 (y := { L k with spr := sp, avg := av, low := v, high := u }) hk (j := 4) (v := .int .u64 u) (by decide) rfl (fun r hr hne => Ln.c4 { L k with spr := sp, avg := av, low := v } _ hne)
        have HYE := Lib.hid (show y = { L k with spr := sp, avg := av, low := if (n : Int) < lo then n else lo, high := if hi < (n : Int) then n else hi } from by
          rw [HY.out, HSP.out, HAV.out, HLH.out.1, HLH.out.2]
          have h0 : ¬ (L k).deals = 0 := by rw [← HDE.out]; exact HN0.out
          obtain ⟨hv, hs, h1, h2⟩ := HV.out
          simp only [dealLn, if_neg h0, farW]
          rw [← hv, ← hs, ← HFU.out, ← h1, ← h2])
        have HFA2 := Lib.hid (show ∀ v u : Int, v = (if (n : Int) < lo then (n : Int) else lo) → u = (if hi < (n : Int) then (n : Int) else hi) → Ix ((W6.setCell ⟨g, k * 21 + 3, none⟩ (.int .u64 v)).setCell ⟨g, k * 21 + 4, none⟩ (.int .u64 u)).drew g (setL L k y) ∧ Only (fun x => x = g) w ((W6.setCell ⟨g, k * 21 + 3, none⟩ (.int .u64 v)).setCell ⟨g, k * 21 + 4, none⟩ (.int .u64 u)).drew from fun v u hv hu => by
          rw [HYE.out, ← hv, ← hu]
          exact ⟨(e3 v u).kept (below_drawn (Below.refl _ _) _), (H6.out.2.trans (only_set.trans only_set (fun x hx => .inl hx)) (fun x hx => .inl hx)).trans (Only.of_below (S := fun x => x = g) (below_drawn (Below.refl _ _) _)) (fun x hx => .inl hx)⟩)
        clear e3
        go_region_with (fail)
        all_goals (go_wp2_with fail)
        all_goals
          go_meet
          exact HFA2.out _ _ (by split <;> first | rfl | omega) (by split <;> first | rfl | omega)
  case rest =>
    obtain ⟨h1, ho1⟩ := hcut
    have H1 := Lib.hid (And.intro h1 ho1)
    have z0 := (h1.five hk).1
    rw [setL_same] at z0
    rw [show y.deals = d from by rw [HY.out, HDE.out]] at z0
    have f0 := h1.frozen (k * 21)
    have w1 : IntKind.i64.wrap (d + 1) = d + 1 := by rw [IntKind.wrap_i64]; omega
    obtain ⟨hh, hhe⟩ : ∃ hh, hh = t / 64 % 8 := ⟨_, rfl⟩
    have hh8 : hh < 8 := by rw [hhe]; exact Nat.mod_lt _ (by decide)
    have HH := Lib.hid hhe
    clear h1 ho1
    go_upto_region 13 with fail
    refine wp_world (fun W => Ix W g (setL L k { y with deals := d + 1 }) ∧ Only (fun x => x = g) w W) ?_ ?_
    · refine ⟨?_, H1.out.2.trans only_set (fun x hx => .inl hx)⟩
      have h := H1.out.1.put2 (y := { y with deals := d + 1 }) hk (j := 0) (v := .int .i64 (d + 1)) (by decide) rfl (fun r hr hne => Ln.c0 y _ hne)
      rw [Nat.add_zero] at h
      exact h
    rintro W2 ⟨h2, ho2⟩
    have H2 := Lib.hid (And.intro h2 ho2)
    have zd := (h2.dayc hk hh8).1
    have zh := (h2.dayc hk hh8).2
    rw [setL_same] at zd zh
    clear h2 ho2 z0 f0 w1 H1 hhe
    go_upto_region 14 with fail
    have eh : (t : Int) / 64 % 8 = (hh : Int) := by have := HH.out; omega
    rw [eh]
    have i8 : (hh : Int) < 8 := by omega
    obtain ⟨dv, hdv⟩ : ∃ dv, dv = (L k).day hh := ⟨_, rfl⟩
    obtain ⟨hb, hhb⟩ : ∃ hb, hb = (L k).has hh := ⟨_, rfl⟩
    rw [show ({ y with deals := d + 1 } : Ln).day hh = dv from by rw [hdv, HY.out]] at zd
    rw [show ({ y with deals := d + 1 } : Ln).has hh = hb from by rw [hhb, HY.out]] at zh
    have HDH := Lib.hid (And.intro hdv hhb)
    clear hdv hhb eh
    -- the hour's real and its flag are written
    have FIN : ∀ (W : World) (pv : Nat), pv = (if hb then smV dv f 1056964608 else f) → Ix W g (setL L k { y with deals := d + 1 }) ∧ Only (fun x => x = g) w W → Ix (((W.setCell ⟨g, k * 21 + 5 + hh, none⟩ (.float .f32 pv)).setCell ⟨g, k * 21 + 13 + hh, none⟩ (.bool true)).drew) g (setL L k (dealLn (L k) n (t / 64 % 8))) ∧ Only (fun x => x = g) w (((W.setCell ⟨g, k * 21 + 5 + hh, none⟩ (.float .f32 pv)).setCell ⟨g, k * 21 + 13 + hh, none⟩ (.bool true)).drew) := by
      intro W pv hpv h
      have e5 := h.1.put2 (y := { y with deals := d + 1, day := fun j => if j = hh then pv else y.day j }) hk (j := 5 + hh) (v := .float .f32 pv) (by omega) (by
        simp only [Ln.cell]
        rw [if_neg (by omega), if_neg (by omega), if_neg (by omega), if_neg (by omega), if_neg (by omega), if_pos (by omega), if_pos (by omega)]) (fun r hr hne => Ln.c5 { y with deals := d + 1 } hh pv hh8 hne)
      have e13 := e5.put2 (y := { y with deals := d + 1, day := fun j => if j = hh then pv else y.day j, has := fun j => if j = hh then true else y.has j }) hk (j := 13 + hh) (v := .bool true) (by omega) (by
        simp only [Ln.cell]
        rw [if_neg (by omega), if_neg (by omega), if_neg (by omega), if_neg (by omega), if_neg (by omega), if_neg (by omega), if_pos (by omega)]) (fun r hr hne => Ln.c13 { y with deals := d + 1, day := fun j => if j = hh then pv else y.day j } hh true hh8 hne)
      rw [← Nat.add_assoc, ← Nat.add_assoc] at e13
      have e : dealLn (L k) n (t / 64 % 8) = { y with deals := d + 1, day := fun j => if j = hh then pv else y.day j, has := fun j => if j = hh then true else y.has j } := by
        rw [hpv, HY.out, HDH.out.1, HDH.out.2, HFU.out, HDE.out, HH.out]; rfl
      rw [e]
      exact ⟨e13.kept (below_drawn (Below.refl _ _) _), ((h.2.trans only_set (fun x hx => .inl hx)).trans only_set (fun x hx => .inl hx)).trans (Only.of_below (S := fun x => x = g) (below_drawn (Below.refl _ _) _)) (fun x hx => .inl hx)⟩
    have HFIN := Lib.hid FIN
    clear FIN
    cases hb with
    | true =>
      go_wp2_with fail
      refine (smooth_any dv f 1056964608 W2).mono ?_
      rintro r0 W3 ⟨rfl, hq3⟩
      rw [show n03.opW (Ieee.single.add dv (n03.opW (Ieee.single.mul (n03.opW (Ieee.single.sub f dv)) 1056964608))) = smV dv f 1056964608 from rfl]
      obtain ⟨pv, hpv⟩ : ∃ pv, pv = smV dv f 1056964608 := ⟨_, rfl⟩
      rw [← hpv]
      have HPV2 := Lib.hid hpv
      have H3 := Lib.hid (show Ix W3 g (setL L k { y with deals := d + 1 }) ∧ Only (fun x => x = g) w W3 from ⟨H2.out.1.kept (hq3.below _), H2.out.2.trans (Only.of_below (S := fun x => x = g) (hq3.below _)) (fun k hk => .inl hk)⟩)
      clear hpv hq3 zd zh
      have zd := (H3.out.1.dayc hk hh8).1
      have zh := (H3.out.1.dayc hk hh8).2
      have zq := (H3.out.1.five hk).2.2.1
      have HZQ := Lib.hid (show ∀ v, (W3.setCell ⟨g, k * 21 + 5 + hh, none⟩ v).drew.cell? ⟨g, k * 21 + 2, none⟩ = some (.float .f32 (setL L k { y with deals := d + 1 } k).spr) from fun v => by
        show (W3.setCell ⟨g, k * 21 + 5 + hh, none⟩ v).cell? _ = _
        rw [World.cell?_setCell_other (h := fun e => by injection e with e1 e2 e3; omega)]; exact zq)
      have HZR := Lib.hid (show ∀ v u, ((W3.setCell ⟨g, k * 21 + 5 + hh, none⟩ v).setCell ⟨g, k * 21 + 13 + hh, none⟩ u).drew.cell? ⟨g, k * 21 + 2, none⟩ = some (.float .f32 (setL L k { y with deals := d + 1 } k).spr) from fun v u => by
        show ((W3.setCell ⟨g, k * 21 + 5 + hh, none⟩ v).setCell ⟨g, k * 21 + 13 + hh, none⟩ u).cell? _ = _
        rw [World.cell?_setCell_other (h := fun e => by injection e with e1 e2 e3; omega), World.cell?_setCell_other (h := fun e => by injection e with e1 e2 e3; omega)]; exact zq)
      have fd := H3.out.1.frozen (k * 21 + 5 + hh)
      have fh := H3.out.1.frozen (k * 21 + 13 + hh)
      have zh2 : ∀ v, (W3.setCell ⟨g, k * 21 + 5 + hh, none⟩ v).cell? ⟨g, k * 21 + 13 + hh, none⟩ = some (.bool ((setL L k { y with deals := d + 1 } k).has hh)) := fun v => by
        rw [World.cell?_setCell_other (h := fun e => by injection e with e1 e2 e3; omega)]; exact zh
      have fh2 : ∀ v, (W3.setCell ⟨g, k * 21 + 5 + hh, none⟩ v).frozen? ⟨g, k * 21 + 13 + hh, none⟩ = false := fun v => by rw [World.frozen?_setCell]; exact fh
      go_upto_region 16 with fail
      go_region_held3 (fun V => V.cell? ⟨g, k * 21 + 2, none⟩ = some (.float .f32 (setL L k { y with deals := d + 1 } k).spr)) (first | assumption | exact HZQ.out _ | exact HZR.out _ _ | go_keep) (fail)
      have HFF := Lib.hid (HFIN.out W3 pv (by rw [HPV2.out]; rfl) H3.out)
      go_wp2
      go_ret
      exact ⟨rfl, HFF.out⟩
    | false =>
      have HFZ := Lib.hid (HFIN.out W2 f rfl H2.out)
      have H3 := H2
      clear zd
      have zd := (H3.out.1.dayc hk hh8).1
      have zq := (H3.out.1.five hk).2.2.1
      have HZQ := Lib.hid (show ∀ v, (W2.setCell ⟨g, k * 21 + 5 + hh, none⟩ v).drew.cell? ⟨g, k * 21 + 2, none⟩ = some (.float .f32 (setL L k { y with deals := d + 1 } k).spr) from fun v => by
        show (W2.setCell ⟨g, k * 21 + 5 + hh, none⟩ v).cell? _ = _
        rw [World.cell?_setCell_other (h := fun e => by injection e with e1 e2 e3; omega)]; exact zq)
      have HZR := Lib.hid (show ∀ v u, ((W2.setCell ⟨g, k * 21 + 5 + hh, none⟩ v).setCell ⟨g, k * 21 + 13 + hh, none⟩ u).drew.cell? ⟨g, k * 21 + 2, none⟩ = some (.float .f32 (setL L k { y with deals := d + 1 } k).spr) from fun v u => by
        show ((W2.setCell ⟨g, k * 21 + 5 + hh, none⟩ v).setCell ⟨g, k * 21 + 13 + hh, none⟩ u).cell? _ = _
        rw [World.cell?_setCell_other (h := fun e => by injection e with e1 e2 e3; omega), World.cell?_setCell_other (h := fun e => by injection e with e1 e2 e3; omega)]; exact zq)
      have fd := H3.out.1.frozen (k * 21 + 5 + hh)
      have fh := H3.out.1.frozen (k * 21 + 13 + hh)
      have zh2 : ∀ v, (W2.setCell ⟨g, k * 21 + 5 + hh, none⟩ v).cell? ⟨g, k * 21 + 13 + hh, none⟩ = some (.bool false) := fun v => by
        rw [World.cell?_setCell_other (h := fun e => by injection e with e1 e2 e3; omega)]; exact zh
      have fh2 : ∀ v, (W2.setCell ⟨g, k * 21 + 5 + hh, none⟩ v).frozen? ⟨g, k * 21 + 13 + hh, none⟩ = false := fun v => by rw [World.frozen?_setCell]; exact fh
      go_upto_region 16 with fail
      go_region_held3 (fun V => V.cell? ⟨g, k * 21 + 2, none⟩ = some (.float .f32 (setL L k { y with deals := d + 1 } k).spr)) (first | assumption | exact HZQ.out _ | exact HZR.out _ _ | go_keep) (fail)
      go_wp2
      go_ret
      exact ⟨rfl, HFZ.out⟩
end Go.Proofs.Ythadfopkacbnlaa
