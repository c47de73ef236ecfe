/-
  Layer 18: known.
-/
import Derived.Test.YthadfopkacbnlaaUe
namespace Go.Proofs.Ythadfopkacbnlaa
open Go.RowKit Go.K Stab
set_option linter.unusedVariables false
set_option linter.unusedSimpArgs false
attribute [local go_sem] run_store_float run_equalIn_float
def kL1 : Nat → Ln := setL (fun _ => lnZ) 3 (dealLn lnZ 100 0)
def kL2 : Nat → Ln := setL kL1 3 (dealLn (kL1 3) 108 1)
theorem fu100 : fuW 100 = 1120403456 := by decide +kernel
theorem fu108 : fuW 108 = 1121452032 := by decide +kernel
theorem sm_avg : smV 1120403456 1121452032 1040187392 = 1120534528 := by decide +kernel
theorem far8 : farW 1121452032 1120403456 = 1090519040 := by decide +kernel
theorem sm_spr : smV 0 1090519040 1040187392 = 1065353216 := by decide +kernel
theorem ord8 : ¬ FloatKind.f32.format.order (n03.opW (Ieee.single.sub 1121452032 1120403456)) (n03.opW (Ieee.single.sub 1120403456 1121452032)) = none := by decide +kernel
theorem kL1_3 : (kL1 3).deals = 1 ∧ (kL1 3).avg = 1120403456 ∧ (kL1 3).spr = 0 ∧ (kL1 3).low = 100 ∧ (kL1 3).high = 100 := by
  unfold kL1; rw [setL_same]
  exact ⟨rfl, fu100, rfl, rfl, rfl⟩
theorem kL2_3 : (kL2 3).deals = 2 ∧ (kL2 3).avg = 1120534528 ∧ (kL2 3).spr = 1065353216 ∧ (kL2 3).low = 100 ∧ (kL2 3).high = 108 := by
  unfold kL2; rw [setL_same]
  obtain ⟨h1, h2, h3, h4, h5⟩ := kL1_3
  unfold dealLn
  simp only [h1, h2, h3, h4, h5, fu108, far8, sm_avg, sm_spr]
  decide
def dK : Nat → Nat | 0 => 1120403456 | 1 => 1121452032 | _ => 0
theorem kL2_day : ∀ j, j < 8 → (kL2 3).day j = dK j := by
  have e : ∀ j, (kL2 3).day j = if j = 1 then fuW 108 else if j = 0 then fuW 100 else 0 := by
    intro j
    unfold kL2; rw [setL_same]
    show (if j = 1 then (if (kL1 3).has 1 then _ else fuW 108) else (kL1 3).day j) = _
    have h1 : (kL1 3).has 1 = false := by unfold kL1; rw [setL_same]; rfl
    have h2 : (kL1 3).day j = if j = 0 then fuW 100 else 0 := by unfold kL1; rw [setL_same]; rfl
    rw [h1, h2]; rfl
  intro j hj
  rw [e, fu100, fu108]
  match j with
  | 0 => rfl
  | 1 => rfl
  | n + 2 => rfl
theorem re_congr {d e : Nat → Nat} (q : Nat) : ∀ n, (∀ j, j < n → d j = e j) → reV d q n = reV e q n ∧ imV d q n = imV e q n
  | 0, _ => ⟨rfl, rfl⟩
  | n + 1, h => by
    obtain ⟨h1, h2⟩ := re_congr q n (fun j hj => h j (by omega))
    unfold reV imV
    rw [h1, h2, h n (by omega)]
    exact ⟨rfl, rfl⟩
theorem kre : floatBits .add .f32 (reV dK 2 8) 0 = some 1120403456 := by decide +kernel
theorem kim : floatBits .add .f32 (imV dK 2 8) 0 = some 3268935680 := by decide +kernel
theorem kre2 : floatBits .add .f32 (reV (kL2 3).day 2 8) 0 = some 1120403456 := by rw [(re_congr 2 8 kL2_day).1]; exact kre
theorem kim2 : floatBits .add .f32 (imV (kL2 3).day 2 8) 0 = some 3268935680 := by rw [(re_congr 2 8 kL2_day).2]; exact kim
theorem kL2_other {k : Nat} (h : k ≠ 3) : kL2 k = lnZ := by unfold kL2 kL1; rw [setL_other _ _ _ h, setL_other _ _ _ h]
theorem kL2_avg (k : Nat) : (kL2 k).avg < 4294967296 := by
  by_cases h : k = 3
  · subst h; rw [kL2_3.2.1]; decide
  · rw [kL2_other h]; decide
theorem k_rank : Rank kL2 [3] := by
  refine ⟨List.pairwise_singleton _ _, ?_⟩
  have : dealt kL2 16 = [3] := by
    have e : ∀ k, decide (0 < (kL2 k).deals) = decide (k = 3) := by
      intro k
      by_cases h : k = 3
      · subst h; rw [kL2_3.1]; rfl
      · rw [kL2_other h, decide_eq_false h]; rfl
    unfold dealt
    rw [List.filter_congr (q := fun k => decide (k = 3)) (fun k _ => e k)]
    rfl
  rw [this]
theorem qK : (kL2 3).quote = .agg #[.int .i64 2, .float .f32 1120534528, .float .f32 1065353216, .int .u64 100, .int .u64 108] := by
  obtain ⟨h1, h2, h3, h4, h5⟩ := kL2_3
  unfold Ln.quote
  rw [h1, h2, h3, h4, h5]
set_option maxRecDepth 100000 in
set_option maxHeartbeats 4000000 in
theorem known_any (w : World) : Calls Try.prog 8 #[] w fun r w' => r = .returned (.bool true) ∧ Below w.heap.size w w' := by
  go_enter Try.func8, Try.ntmps8
  go_wp2_with fail
  refine (new_any w).mono ?_
  rintro r0 w1 ⟨rfl, hi1, hb1⟩
  obtain ⟨g, hg⟩ : ∃ g, g = w.heap.size := ⟨_, rfl⟩
  rw [← hg] at hi1 ⊢
  have HGE := Lib.hid hg
  have HI1 := Lib.hid hi1
  have HB1 := Lib.hid hb1
  clear hi1 hb1 hg
  go_wp2_with fail
  refine (deal_any g 3 100 0 (fun _ => lnZ) w1 (by decide) (by decide) (by decide) (by decide) (fun h => absurd rfl h) HI1.out).mono ?_
  rintro r0 w2 ⟨rfl, hi2, ho2⟩
  have HI2 := Lib.hid (show Ix w2 g kL1 from hi2)
  have HB2 := Lib.hid (show Below w.heap.size w w2 from HB1.out.trans (ho2.below HB1.out.size (fun x hx => by rw [hx, HGE.out]; exact Nat.le_refl _)))
  clear hi2 ho2
  go_wp2_with fail
  refine (num_any 0 _).mono ?_
  rintro r0 w3 ⟨rfl, rfl⟩
  go_wp2_with fail
  refine (deal_any g 3 108 64 kL1 w2 (by decide) (by decide) (by rw [kL1_3.1]; decide) (by decide) (fun _ => by rw [fu108, kL1_3.2.1]; exact ord8) HI2.out).mono ?_
  rintro r0 w3 ⟨rfl, hi3, ho3⟩
  have HI3 := Lib.hid (show Ix w3 g kL2 from hi3)
  have HB3 := Lib.hid (show Below w.heap.size w w3 from HB2.out.trans (ho3.below HB2.out.size (fun x hx => by rw [hx, HGE.out]; exact Nat.le_refl _)))
  clear hi3 ho3
  go_wp2_with fail
  refine (num_any 0 _).mono ?_
  rintro r0 w4 ⟨rfl, rfl⟩
  go_wp2_with fail
  refine (quote_any g 3 kL2 w3 (by decide) HI3.out).mono ?_
  rintro r0 w4 ⟨rfl, hb4⟩
  rw [qK]
  have HI4 := Lib.hid (HI3.out.kept hb4)
  have HB4 := Lib.hid (HB3.out.trans (hb4.mono HB3.out.size))
  clear hb4
  go_wp2_with fail
  obtain ⟨m, hm⟩ : ∃ m, m = w4.heap.size := ⟨_, rfl⟩
  obtain ⟨w5, h5⟩ : ∃ w5, w5 = w4.alloc (.cells #[.int .i64 2, .float .f32 1120534528, .float .f32 1065353216, .int .u64 100, .int .u64 108] 32) := ⟨_, rfl⟩
  rw [← h5, ← hm]
  have HR5 := Lib.hid (show w5.heap[m]? = some (.cells #[.int .i64 2, .float .f32 1120534528, .float .f32 1065353216, .int .u64 100, .int .u64 108] 32) from by rw [h5]; exact alloc_at hm)
  have HI5 := Lib.hid (show Ix w5 g kL2 from by rw [h5]; exact HI4.out.kept ((Below.refl _ _).alloc (Nat.le_refl _) _))
  have HB5 := Lib.hid (show Below w.heap.size w w5 from by rw [h5]; exact HB4.out.alloc HB4.out.size _)
  have HRES := Lib.hid (show Try.prog.info? 32 = Try.prog.info? 32 from rfl)
  clear h5 hm
  refine (swing_any g 3 2 2 kL2 w5 (by decide) (by decide) (by decide +kernel) _ _ kre2 kim2 HI5.out).mono ?_
  rintro r0 w6 ⟨rfl, hb6⟩
  have HR6 := Lib.hid (row_kept HR5.out hb6)
  have HI6 := Lib.hid (HI5.out.kept hb6)
  have HB6 := Lib.hid (HB5.out.trans (hb6.mono HB5.out.size))
  clear hb6
  have f1 : Op.floatEq .f32 1120534528 1120534528 = true := by decide +kernel
  have f2 : Op.floatEq .f32 1065353216 1065353216 = true := by decide +kernel
  go_upto_region 6 with fail
  have hc : ∀ i v, (#[Value.int .i64 2, .float .f32 1120534528, .float .f32 1065353216, .int .u64 100, .int .u64 108])[i]? = some v → w6.cell? ⟨m, i, none⟩ = some v := fun i v h => by rw [cell_of_row _ _ _ _ _ _ HR6.out]; exact h
  have c0 := hc 0 _ rfl
  have c1 := hc 1 _ rfl
  have c2 := hc 2 _ rfl
  have c3 := hc 3 _ rfl
  have c4 := hc 4 _ rfl
  clear hc
  go_wp2_with fail
  refine (num_any 0 _).mono ?_
  rintro r0 w7 ⟨rfl, rfl⟩
  go_wp2_with fail
  refine (num_any 0 _).mono ?_
  rintro r0 w7 ⟨rfl, rfl⟩
  have f3 : (FloatKind.f32.format.order 1120403456 1120403456 == some Ordering.eq) = true := by decide +kernel
  have f4 : (FloatKind.f32.format.order 3268935680 3268935680 == some Ordering.eq) = true := by decide +kernel
  go_wp2_with fail
  refine (rank_any g kL2 w6 kL2_avg HI6.out).mono ?_
  rintro r0 w7 ⟨⟨v, rfl, hv⟩, hb7⟩
  obtain ⟨ra, rc, rfl, hsl⟩ := hv.sl k_rank
  have HS7 := Lib.hid hsl
  have HB7 := Lib.hid (HB6.out.trans (hb7.mono HB6.out.size))
  clear hv hsl hb7
  go_wp2_with fail
  obtain ⟨w8, h8⟩ : ∃ w8, w8 = w7.alloc (.cells #[.int .i64 3] 3) := ⟨_, rfl⟩
  have hb8 : Below w.heap.size w w8 := by rw [h8]; exact HB7.out.alloc HB7.out.size _
  have hs8 : Sl w8 ra (vN [3]) := by rw [h8]; exact HS7.out.kept ((Below.refl _ _).alloc (Nat.le_refl _) _)
  have hn8 : Sl w8 (some ⟨w7.heap.size, 0, none⟩) (vN [3]) := by rw [h8]; exact sl_new w7 (vN [3]) 3 (0, 0)
  rw [← h8]
  clear h8
  refine (ints_true ra (some ⟨w7.heap.size, 0, none⟩) rc 1 [3] w8 (by decide) hs8 hn8).mono ?_
  rintro r0 w9 ⟨rfl, hq⟩
  go_wp2
  go_ret
  exact ⟨rfl, hb8.trans (hq.below _)⟩
end Go.Proofs.Ythadfopkacbnlaa
