/-
  Layer 20: the numbers with which Terms refuses the chapter's contracts (printed by gen_refuses.py).
-/
import Derived.Test.YtiafhgcnjgpeaaaZc
namespace Go.Proofs.Ytiafhgcnjgpeaaa
open Go.RowKit Go.K
set_option linter.unusedVariables false
set_option linter.unusedSimpArgs false

def RF : List Int := [234, 200, 200, 200, 200, 200, 200, 200, 200]
theorem one_ok {W : World} {g : Nat} {a i c p : Int} (h : W.heap[g]? = some (.cells #[.int .i64 a, .int .i64 i, .int .u64 c, .int .u64 p, .slice none 0 0] 44)) (m : Con) (h1 : m.ea = some ⟨g, 0, none⟩) (h2 : m.ec = 1) (h3 : m.es = [⟨a, i, c, p, none, 0, []⟩]) : ConOk W m := by
  obtain ⟨n, k, b, d, t, wn, p, r, s, o, ea, ec, es⟩ := m
  simp only at h1 h2 h3
  subst h1 h2 h3
  exact NewC.ok (B := g) ⟨⟨rfl, .inr ⟨g, 1, _, rfl, Nat.le_refl _, h, Nat.le_refl _, by unfold maxLen; decide, rfl, rfl⟩⟩, (fun h => by cases h), (fun e he => by simp only [List.mem_singleton] at he; subst he; exact ⟨rfl, rfl, rfl⟩), Nat.le_refl _, rfl⟩
theorem none_ok (W : World) (m : Con) (h1 : m.ea = none) (h2 : m.ec = 0) (h3 : m.es = []) : ConOk W m := by
  obtain ⟨n, k, b, d, t, wn, p, r, s, o, ea, ec, es⟩ := m
  simp only at h1 h2 h3
  subst h1 h2 h3
  exact ⟨Sl.nil _ _, (fun e he => by cases he), Nat.le_refl _, Nat.zero_le _, fun _ => ⟨rfl, rfl⟩⟩
set_option maxRecDepth 100000 in
set_option maxHeartbeats 4000000 in
theorem refuses_any (w : World) : Calls Try.prog 35 #[] w fun r w' => ∃ ad cap, r = .returned (.slice ad 9 cap) ∧ Sl w' ad (vI RF) ∧ Below w.heap.size w w' := by
  go_enter Try.func35, Try.ntmps35
  go_wp2
  go_loopw [1, 2] (fun v' i wr => ∃ (z : Int) (v : Value), v = v' ∧ 0 ≤ z ∧ z ≤ 9 ∧ i = .int .i64 z ∧ wr.ownsRow w.heap.size 3 1 v z.toNat (vI (RF.take z.toNat)) ∧ Below w.heap.size w wr) (fun _ i _ => 9 - (intOf i).toNat)
  case atStart => exact ⟨0, _, rfl, by omega, by omega, rfl, World.ownsRow_nil _ _ _ _, Below.refl _ _⟩
  case round =>
    obtain ⟨z, v, hv, hz0, hz9, rfl, ho, hb⟩ := hrel
    subst hv
    have HO := Lib.hid ho
    have HB := Lib.hid hb
    clear ho hb
    obtain h | h | h | h | h | h | h | h | h | h : z = 0 ∨ z = 1 ∨ z = 2 ∨ z = 3 ∨ z = 4 ∨ z = 5 ∨ z = 6 ∨ z = 7 ∨ z = 8 ∨ z = 9 := by omega
    · subst h
      clear hz0 hz9
      go_wp2_with fail
      refine (given_any wr).mono ?_
      rintro r0 w1 ⟨g, rfl, hg, hge, hb⟩
      have hg : w1.heap[g]? = some (.cells #[.int .i64 1, .int .i64 3, .int .u64 5, .int .u64 0, .slice none 0 0] 44) := hg
      have HG := Lib.hid hge
      have HB1 := Lib.hid hb
      have HGL := Lib.hid (lt_row hg)
      clear hge hb
      unfold givenC Con.agg
      simp only [List.length_cons, List.length_nil, Nat.zero_add]
      go_wp2_with fail
      have HX := Lib.hid ((Below.refl w1.heap.size w1).alloc (Nat.le_refl _) (.cells #[.int .i64 4, .int .i64 1, .int .i64 1, .int .i64 9, .int .i64 1, .int .i64 7, .int .u64 10, .int .u64 0, .int .u64 0, .int .i64 0, .slice (some ⟨g, 0, none⟩) 1 1] 25))
      have K17 := Lib.hid (terms_any ⟨4, 1, 1, 9, 1, 7, 10, 0, 0, 0, some ⟨g, 0, none⟩, 1, [⟨1, 3, 5, 0, none, 0, []⟩]⟩ (w1.alloc (.cells #[.int .i64 4, .int .i64 1, .int .i64 1, .int .i64 9, .int .i64 1, .int .i64 7, .int .u64 10, .int .u64 0, .int .u64 0, .int .i64 0, .slice (some ⟨g, 0, none⟩) 1 1] 25)) (one_ok (alloc_old hg) _ rfl rfl rfl))
      rw [show termsV ⟨4, 1, 1, 9, 1, 7, 10, 0, 0, 0, some ⟨g, 0, none⟩, 1, [⟨1, 3, 5, 0, none, 0, []⟩]⟩ = 234 from by simp [termsV, itemP, maxS, bareP]] at K17
      unfold Con.agg at K17
      simp only [List.length_cons, List.length_nil, Nat.zero_add] at K17
      refine K17.out.mono ?_
      rintro r0 w5 ⟨rfl, hb⟩
      have HB5 := Lib.hid (HB1.out.trans ((HX.out.trans (hb.mono HX.out.size)).mono HB1.out.size))
      have HO5 := Lib.hid (owns_below (B := 0) HO.out HB5.out)
      have HBW := Lib.hid (HB.out.trans (HB5.out.mono HB.out.size))
      have B1 := Lib.hid (show 0 + 1 ≤ maxLen from by unfold maxLen; decide)
      have B2 := Lib.hid (show (0 + 1) * 8 ≤ 140737488355328 from by decide)
      have B3 := Lib.hid (show w.heap.size ≤ (w5.alloc (.cells #[.int .i64 234] 3)).heap.size from by have := HBW.out.size; simp only [World.size_alloc]; omega)
      clear hb K17
      go_wp2_with (first
        | (go_at_call 13; refine (num_any _ _).mono ?_; rintro r0 w6 ⟨rfl, rfl⟩)
        | (at_builtin; refine wpList_append_sl_at rfl _ _ 42 rfl w.heap.size 3 (.int .i64 0) 1 8 Try.underlying42 infoI rfl (by decide) v 0 (vI (RF.take 0)) rfl (HO5.out.alloc _) (some ⟨w5.heap.size, 0, none⟩) 1 1 [.int .i64 234] rfl (fun h => by cases h) rfl (sl_new _ _ _ _) (one_int _ _) B1.out B2.out B3.out ?_; intro v2 w7 ho7 hg7 hl7)
        | fail)
      have HB7 := Lib.hid ((HBW.out.alloc HBW.out.size _).grown hg7 (HBW.out.alloc HBW.out.size _).size (fun k hk => (HO5.out.lt k hk).1))
      clear hg7 hl7
      go_roundw
      case rel => exact ⟨1, _, rfl, by omega, by omega, rfl, ho7, HB7.out⟩
      case measure => simp [intOf]
    · subst h
      clear hz0 hz9
      go_wp2_with fail
      refine (given_any wr).mono ?_
      rintro r0 w1 ⟨g, rfl, hg, hge, hb⟩
      have hg : w1.heap[g]? = some (.cells #[.int .i64 1, .int .i64 3, .int .u64 5, .int .u64 0, .slice none 0 0] 44) := hg
      have HG := Lib.hid hge
      have HB1 := Lib.hid hb
      have HGL := Lib.hid (lt_row hg)
      clear hge hb
      unfold givenC Con.agg
      simp only [List.length_cons, List.length_nil, Nat.zero_add]
      go_wp2_with fail
      have HX := Lib.hid ((Below.refl w1.heap.size w1).alloc (Nat.le_refl _) (.cells #[.int .i64 4, .int .i64 1, .int .i64 1, .int .i64 9, .int .i64 2, .int .i64 0, .int .u64 0, .int .u64 0, .int .u64 0, .int .i64 0, .slice (some ⟨g, 0, none⟩) 1 1] 25))
      have K17 := Lib.hid (terms_any ⟨4, 1, 1, 9, 2, 0, 0, 0, 0, 0, some ⟨g, 0, none⟩, 1, [⟨1, 3, 5, 0, none, 0, []⟩]⟩ (w1.alloc (.cells #[.int .i64 4, .int .i64 1, .int .i64 1, .int .i64 9, .int .i64 2, .int .i64 0, .int .u64 0, .int .u64 0, .int .u64 0, .int .i64 0, .slice (some ⟨g, 0, none⟩) 1 1] 25)) (one_ok (alloc_old hg) _ rfl rfl rfl))
      rw [show termsV ⟨4, 1, 1, 9, 2, 0, 0, 0, 0, 0, some ⟨g, 0, none⟩, 1, [⟨1, 3, 5, 0, none, 0, []⟩]⟩ = 200 from by simp [termsV, itemP, maxS, bareP]] at K17
      unfold Con.agg at K17
      simp only [List.length_cons, List.length_nil, Nat.zero_add] at K17
      refine K17.out.mono ?_
      rintro r0 w5 ⟨rfl, hb⟩
      have HB5 := Lib.hid (HB1.out.trans ((HX.out.trans (hb.mono HX.out.size)).mono HB1.out.size))
      have HO5 := Lib.hid (owns_below (B := 0) HO.out HB5.out)
      have HBW := Lib.hid (HB.out.trans (HB5.out.mono HB.out.size))
      have B1 := Lib.hid (show 1 + 1 ≤ maxLen from by unfold maxLen; decide)
      have B2 := Lib.hid (show (1 + 1) * 8 ≤ 140737488355328 from by decide)
      have B3 := Lib.hid (show w.heap.size ≤ (w5.alloc (.cells #[.int .i64 200] 3)).heap.size from by have := HBW.out.size; simp only [World.size_alloc]; omega)
      clear hb K17
      go_wp2_with (first
        | (go_at_call 13; refine (num_any _ _).mono ?_; rintro r0 w6 ⟨rfl, rfl⟩)
        | (at_builtin; refine wpList_append_sl_at rfl _ _ 42 rfl w.heap.size 3 (.int .i64 0) 1 8 Try.underlying42 infoI rfl (by decide) v 1 (vI (RF.take 1)) rfl (HO5.out.alloc _) (some ⟨w5.heap.size, 0, none⟩) 1 1 [.int .i64 200] rfl (fun h => by cases h) rfl (sl_new _ _ _ _) (one_int _ _) B1.out B2.out B3.out ?_; intro v2 w7 ho7 hg7 hl7)
        | fail)
      have HB7 := Lib.hid ((HBW.out.alloc HBW.out.size _).grown hg7 (HBW.out.alloc HBW.out.size _).size (fun k hk => (HO5.out.lt k hk).1))
      clear hg7 hl7
      go_roundw
      case rel => exact ⟨2, _, rfl, by omega, by omega, rfl, ho7, HB7.out⟩
      case measure => simp [intOf]
    · subst h
      clear hz0 hz9
      go_wp2_with fail
      refine (given_any wr).mono ?_
      rintro r0 w1 ⟨g, rfl, hg, hge, hb⟩
      have hg : w1.heap[g]? = some (.cells #[.int .i64 1, .int .i64 3, .int .u64 5, .int .u64 0, .slice none 0 0] 44) := hg
      have HG := Lib.hid hge
      have HB1 := Lib.hid hb
      have HGL := Lib.hid (lt_row hg)
      clear hge hb
      unfold givenC Con.agg
      simp only [List.length_cons, List.length_nil, Nat.zero_add]
      go_wp2_with fail
      have HX := Lib.hid ((Below.refl w1.heap.size w1).alloc (Nat.le_refl _) (.cells #[.int .i64 4, .int .i64 1, .int .i64 1, .int .i64 9, .int .i64 2, .int .i64 7, .int .u64 10, .int .u64 1, .int .u64 0, .int .i64 0, .slice (some ⟨g, 0, none⟩) 1 1] 25))
      have K17 := Lib.hid (terms_any ⟨4, 1, 1, 9, 2, 7, 10, 1, 0, 0, some ⟨g, 0, none⟩, 1, [⟨1, 3, 5, 0, none, 0, []⟩]⟩ (w1.alloc (.cells #[.int .i64 4, .int .i64 1, .int .i64 1, .int .i64 9, .int .i64 2, .int .i64 7, .int .u64 10, .int .u64 1, .int .u64 0, .int .i64 0, .slice (some ⟨g, 0, none⟩) 1 1] 25)) (one_ok (alloc_old hg) _ rfl rfl rfl))
      rw [show termsV ⟨4, 1, 1, 9, 2, 7, 10, 1, 0, 0, some ⟨g, 0, none⟩, 1, [⟨1, 3, 5, 0, none, 0, []⟩]⟩ = 200 from by simp [termsV, itemP, maxS, bareP]] at K17
      unfold Con.agg at K17
      simp only [List.length_cons, List.length_nil, Nat.zero_add] at K17
      refine K17.out.mono ?_
      rintro r0 w5 ⟨rfl, hb⟩
      have HB5 := Lib.hid (HB1.out.trans ((HX.out.trans (hb.mono HX.out.size)).mono HB1.out.size))
      have HO5 := Lib.hid (owns_below (B := 0) HO.out HB5.out)
      have HBW := Lib.hid (HB.out.trans (HB5.out.mono HB.out.size))
      have B1 := Lib.hid (show 2 + 1 ≤ maxLen from by unfold maxLen; decide)
      have B2 := Lib.hid (show (2 + 1) * 8 ≤ 140737488355328 from by decide)
      have B3 := Lib.hid (show w.heap.size ≤ (w5.alloc (.cells #[.int .i64 200] 3)).heap.size from by have := HBW.out.size; simp only [World.size_alloc]; omega)
      clear hb K17
      go_wp2_with (first
        | (go_at_call 13; refine (num_any _ _).mono ?_; rintro r0 w6 ⟨rfl, rfl⟩)
        | (at_builtin; refine wpList_append_sl_at rfl _ _ 42 rfl w.heap.size 3 (.int .i64 0) 1 8 Try.underlying42 infoI rfl (by decide) v 2 (vI (RF.take 2)) rfl (HO5.out.alloc _) (some ⟨w5.heap.size, 0, none⟩) 1 1 [.int .i64 200] rfl (fun h => by cases h) rfl (sl_new _ _ _ _) (one_int _ _) B1.out B2.out B3.out ?_; intro v2 w7 ho7 hg7 hl7)
        | fail)
      have HB7 := Lib.hid ((HBW.out.alloc HBW.out.size _).grown hg7 (HBW.out.alloc HBW.out.size _).size (fun k hk => (HO5.out.lt k hk).1))
      clear hg7 hl7
      go_roundw
      case rel => exact ⟨3, _, rfl, by omega, by omega, rfl, ho7, HB7.out⟩
      case measure => simp [intOf]
    · subst h
      clear hz0 hz9
      go_wp2_with fail
      refine (given_any wr).mono ?_
      rintro r0 w1 ⟨g, rfl, hg, hge, hb⟩
      have hg : w1.heap[g]? = some (.cells #[.int .i64 1, .int .i64 3, .int .u64 5, .int .u64 0, .slice none 0 0] 44) := hg
      have HG := Lib.hid hge
      have HB1 := Lib.hid hb
      have HGL := Lib.hid (lt_row hg)
      clear hge hb
      unfold givenC Con.agg
      simp only [List.length_cons, List.length_nil, Nat.zero_add]
      go_wp2_with fail
      have HX := Lib.hid ((Below.refl w1.heap.size w1).alloc (Nat.le_refl _) (.cells #[.int .i64 4, .int .i64 1, .int .i64 1, .int .i64 9, .int .i64 2, .int .i64 3, .int .u64 10, .int .u64 0, .int .u64 0, .int .i64 0, .slice (some ⟨g, 0, none⟩) 1 1] 25))
      have K17 := Lib.hid (terms_any ⟨4, 1, 1, 9, 2, 3, 10, 0, 0, 0, some ⟨g, 0, none⟩, 1, [⟨1, 3, 5, 0, none, 0, []⟩]⟩ (w1.alloc (.cells #[.int .i64 4, .int .i64 1, .int .i64 1, .int .i64 9, .int .i64 2, .int .i64 3, .int .u64 10, .int .u64 0, .int .u64 0, .int .i64 0, .slice (some ⟨g, 0, none⟩) 1 1] 25)) (one_ok (alloc_old hg) _ rfl rfl rfl))
      rw [show termsV ⟨4, 1, 1, 9, 2, 3, 10, 0, 0, 0, some ⟨g, 0, none⟩, 1, [⟨1, 3, 5, 0, none, 0, []⟩]⟩ = 200 from by simp [termsV, itemP, maxS, bareP]] at K17
      unfold Con.agg at K17
      simp only [List.length_cons, List.length_nil, Nat.zero_add] at K17
      refine K17.out.mono ?_
      rintro r0 w5 ⟨rfl, hb⟩
      have HB5 := Lib.hid (HB1.out.trans ((HX.out.trans (hb.mono HX.out.size)).mono HB1.out.size))
      have HO5 := Lib.hid (owns_below (B := 0) HO.out HB5.out)
      have HBW := Lib.hid (HB.out.trans (HB5.out.mono HB.out.size))
      have B1 := Lib.hid (show 3 + 1 ≤ maxLen from by unfold maxLen; decide)
      have B2 := Lib.hid (show (3 + 1) * 8 ≤ 140737488355328 from by decide)
      have B3 := Lib.hid (show w.heap.size ≤ (w5.alloc (.cells #[.int .i64 200] 3)).heap.size from by have := HBW.out.size; simp only [World.size_alloc]; omega)
      clear hb K17
      go_wp2_with (first
        | (go_at_call 13; refine (num_any _ _).mono ?_; rintro r0 w6 ⟨rfl, rfl⟩)
        | (at_builtin; refine wpList_append_sl_at rfl _ _ 42 rfl w.heap.size 3 (.int .i64 0) 1 8 Try.underlying42 infoI rfl (by decide) v 3 (vI (RF.take 3)) rfl (HO5.out.alloc _) (some ⟨w5.heap.size, 0, none⟩) 1 1 [.int .i64 200] rfl (fun h => by cases h) rfl (sl_new _ _ _ _) (one_int _ _) B1.out B2.out B3.out ?_; intro v2 w7 ho7 hg7 hl7)
        | fail)
      have HB7 := Lib.hid ((HBW.out.alloc HBW.out.size _).grown hg7 (HBW.out.alloc HBW.out.size _).size (fun k hk => (HO5.out.lt k hk).1))
      clear hg7 hl7
      go_roundw
      case rel => exact ⟨4, _, rfl, by omega, by omega, rfl, ho7, HB7.out⟩
      case measure => simp [intOf]
    · subst h
      clear hz0 hz9
      go_wp2_with fail
      refine (given_any wr).mono ?_
      rintro r0 w1 ⟨g, rfl, hg, hge, hb⟩
      have hg : w1.heap[g]? = some (.cells #[.int .i64 1, .int .i64 3, .int .u64 5, .int .u64 0, .slice none 0 0] 44) := hg
      have HG := Lib.hid hge
      have HB1 := Lib.hid hb
      have HGL := Lib.hid (lt_row hg)
      clear hge hb
      unfold givenC Con.agg
      simp only [List.length_cons, List.length_nil, Nat.zero_add]
      have HX0 := Lib.hid ((Below.refl w1.heap.size w1).alloc (Nat.le_refl _) (.cells #[.int .i64 4, .int .i64 1, .int .i64 1, .int .i64 9, .int .i64 2, .int .i64 7, .int .u64 10, .int .u64 0, .int .u64 0, .int .i64 0, .slice (some ⟨g, 0, none⟩) 1 1] 25))
      have hg0 : (w1.alloc (.cells #[.int .i64 4, .int .i64 1, .int .i64 1, .int .i64 9, .int .i64 2, .int .i64 7, .int .u64 10, .int .u64 0, .int .u64 0, .int .i64 0, .slice (some ⟨g, 0, none⟩) 1 1] 25)).heap[g]? = some (.cells #[.int .i64 1, .int .i64 3, .int .u64 5, .int .u64 0, .slice none 0 0] 44) := alloc_old hg
      have hx0 : (w1.alloc (.cells #[.int .i64 4, .int .i64 1, .int .i64 1, .int .i64 9, .int .i64 2, .int .i64 7, .int .u64 10, .int .u64 0, .int .u64 0, .int .i64 0, .slice (some ⟨g, 0, none⟩) 1 1] 25)).heap[w1.heap.size]? = some (.cells #[.int .i64 4, .int .i64 1, .int .i64 1, .int .i64 9, .int .i64 2, .int .i64 7, .int .u64 10, .int .u64 0, .int .u64 0, .int .i64 0, .slice (some ⟨g, 0, none⟩) 1 1] 25) := alloc_at rfl
      go_wp2_with (first | ((with_reducible refine at_store_op ?_); refine wpList_store_lit 3 g 0 #[.int .i64 2, .int .i64 3, .int .u64 5, .int .u64 0, .slice none 0 0] (.int .i64 2) hg0 sz3 (Nat.le_of_ble_eq_true rfl) rfl rfl ?_ ?_ ?_; exact rfl; exact rfl; intro y1 hp1; have hg1 := hp1.at'; have hx1 := hp1.row hx0 (by have := HGL.out; omega); obtain ⟨p0, p1, p2, p3, p4, p5, p6, p7, p8, p9, p10⟩ := cells11 hx1; have HX1 := Lib.hid (hp1.below (B := wr.heap.size) (HB1.out.trans (HX0.out.mono HB1.out.size)) (HB1.out.trans (HX0.out.mono HB1.out.size)).size HG.out)) | fail)
      clear p0 p1 p2 p3 p4 p5 p6 p7 p8 p9 p10
      have K17 := Lib.hid (terms_any ⟨4, 1, 1, 9, 2, 7, 10, 0, 0, 0, some ⟨g, 0, none⟩, 1, [⟨2, 3, 5, 0, none, 0, []⟩]⟩ y1 (one_ok hg1 _ rfl rfl rfl))
      rw [show termsV ⟨4, 1, 1, 9, 2, 7, 10, 0, 0, 0, some ⟨g, 0, none⟩, 1, [⟨2, 3, 5, 0, none, 0, []⟩]⟩ = 200 from by simp [termsV, itemP, maxS, bareP]] at K17
      unfold Con.agg at K17
      simp only [List.length_cons, List.length_nil, Nat.zero_add] at K17
      refine K17.out.mono ?_
      rintro r0 w5 ⟨rfl, hb⟩
      have HB5 := Lib.hid (HX1.out.trans (hb.mono HX1.out.size))
      have HO5 := Lib.hid (owns_below (B := 0) HO.out HB5.out)
      have HBW := Lib.hid (HB.out.trans (HB5.out.mono HB.out.size))
      have B1 := Lib.hid (show 4 + 1 ≤ maxLen from by unfold maxLen; decide)
      have B2 := Lib.hid (show (4 + 1) * 8 ≤ 140737488355328 from by decide)
      have B3 := Lib.hid (show w.heap.size ≤ (w5.alloc (.cells #[.int .i64 200] 3)).heap.size from by have := HBW.out.size; simp only [World.size_alloc]; omega)
      clear hb K17
      go_wp2_with (first
        | (go_at_call 13; refine (num_any _ _).mono ?_; rintro r0 w6 ⟨rfl, rfl⟩)
        | (at_builtin; refine wpList_append_sl_at rfl _ _ 42 rfl w.heap.size 3 (.int .i64 0) 1 8 Try.underlying42 infoI rfl (by decide) v 4 (vI (RF.take 4)) rfl (HO5.out.alloc _) (some ⟨w5.heap.size, 0, none⟩) 1 1 [.int .i64 200] rfl (fun h => by cases h) rfl (sl_new _ _ _ _) (one_int _ _) B1.out B2.out B3.out ?_; intro v2 w7 ho7 hg7 hl7)
        | fail)
      have HB7 := Lib.hid ((HBW.out.alloc HBW.out.size _).grown hg7 (HBW.out.alloc HBW.out.size _).size (fun k hk => (HO5.out.lt k hk).1))
      clear hg7 hl7
      go_roundw
      case rel => exact ⟨5, _, rfl, by omega, by omega, rfl, ho7, HB7.out⟩
      case measure => simp [intOf]
    · subst h
      clear hz0 hz9
      go_wp2_with fail
      refine (given_any wr).mono ?_
      rintro r0 w1 ⟨g, rfl, hg, hge, hb⟩
      have hg : w1.heap[g]? = some (.cells #[.int .i64 1, .int .i64 3, .int .u64 5, .int .u64 0, .slice none 0 0] 44) := hg
      have HG := Lib.hid hge
      have HB1 := Lib.hid hb
      have HGL := Lib.hid (lt_row hg)
      clear hge hb
      unfold givenC Con.agg
      simp only [List.length_cons, List.length_nil, Nat.zero_add]
      go_wp2_with fail
      have HX := Lib.hid ((Below.refl w1.heap.size w1).alloc (Nat.le_refl _) (.cells #[.int .i64 4, .int .i64 1, .int .i64 1, .int .i64 9, .int .i64 2, .int .i64 7, .int .u64 10, .int .u64 0, .int .u64 0, .int .i64 0, .slice none 0 0] 25))
      have K17 := Lib.hid (terms_any ⟨4, 1, 1, 9, 2, 7, 10, 0, 0, 0, none, 0, []⟩ (w1.alloc (.cells #[.int .i64 4, .int .i64 1, .int .i64 1, .int .i64 9, .int .i64 2, .int .i64 7, .int .u64 10, .int .u64 0, .int .u64 0, .int .i64 0, .slice none 0 0] 25)) (none_ok _ _ rfl rfl rfl))
      rw [show termsV ⟨4, 1, 1, 9, 2, 7, 10, 0, 0, 0, none, 0, []⟩ = 200 from by simp [termsV, itemP, maxS, bareP]] at K17
      unfold Con.agg at K17
      simp only [List.length_cons, List.length_nil, Nat.zero_add] at K17
      refine K17.out.mono ?_
      rintro r0 w5 ⟨rfl, hb⟩
      have HB5 := Lib.hid (HB1.out.trans ((HX.out.trans (hb.mono HX.out.size)).mono HB1.out.size))
      have HO5 := Lib.hid (owns_below (B := 0) HO.out HB5.out)
      have HBW := Lib.hid (HB.out.trans (HB5.out.mono HB.out.size))
      have B1 := Lib.hid (show 5 + 1 ≤ maxLen from by unfold maxLen; decide)
      have B2 := Lib.hid (show (5 + 1) * 8 ≤ 140737488355328 from by decide)
      have B3 := Lib.hid (show w.heap.size ≤ (w5.alloc (.cells #[.int .i64 200] 3)).heap.size from by have := HBW.out.size; simp only [World.size_alloc]; omega)
      clear hb K17
      go_wp2_with (first
        | (go_at_call 13; refine (num_any _ _).mono ?_; rintro r0 w6 ⟨rfl, rfl⟩)
        | (at_builtin; refine wpList_append_sl_at rfl _ _ 42 rfl w.heap.size 3 (.int .i64 0) 1 8 Try.underlying42 infoI rfl (by decide) v 5 (vI (RF.take 5)) rfl (HO5.out.alloc _) (some ⟨w5.heap.size, 0, none⟩) 1 1 [.int .i64 200] rfl (fun h => by cases h) rfl (sl_new _ _ _ _) (one_int _ _) B1.out B2.out B3.out ?_; intro v2 w7 ho7 hg7 hl7)
        | fail)
      have HB7 := Lib.hid ((HBW.out.alloc HBW.out.size _).grown hg7 (HBW.out.alloc HBW.out.size _).size (fun k hk => (HO5.out.lt k hk).1))
      clear hg7 hl7
      go_roundw
      case rel => exact ⟨6, _, rfl, by omega, by omega, rfl, ho7, HB7.out⟩
      case measure => simp [intOf]
    · subst h
      clear hz0 hz9
      go_wp2_with fail
      refine (given_any wr).mono ?_
      rintro r0 w1 ⟨g, rfl, hg, hge, hb⟩
      have hg : w1.heap[g]? = some (.cells #[.int .i64 1, .int .i64 3, .int .u64 5, .int .u64 0, .slice none 0 0] 44) := hg
      have HG := Lib.hid hge
      have HB1 := Lib.hid hb
      have HGL := Lib.hid (lt_row hg)
      clear hge hb
      unfold givenC Con.agg
      simp only [List.length_cons, List.length_nil, Nat.zero_add]
      have HX0 := Lib.hid ((Below.refl w1.heap.size w1).alloc (Nat.le_refl _) (.cells #[.int .i64 4, .int .i64 1, .int .i64 1, .int .i64 9, .int .i64 2, .int .i64 7, .int .u64 10, .int .u64 0, .int .u64 0, .int .i64 0, .slice (some ⟨g, 0, none⟩) 1 1] 25))
      have hg0 : (w1.alloc (.cells #[.int .i64 4, .int .i64 1, .int .i64 1, .int .i64 9, .int .i64 2, .int .i64 7, .int .u64 10, .int .u64 0, .int .u64 0, .int .i64 0, .slice (some ⟨g, 0, none⟩) 1 1] 25)).heap[g]? = some (.cells #[.int .i64 1, .int .i64 3, .int .u64 5, .int .u64 0, .slice none 0 0] 44) := alloc_old hg
      have hx0 : (w1.alloc (.cells #[.int .i64 4, .int .i64 1, .int .i64 1, .int .i64 9, .int .i64 2, .int .i64 7, .int .u64 10, .int .u64 0, .int .u64 0, .int .i64 0, .slice (some ⟨g, 0, none⟩) 1 1] 25)).heap[w1.heap.size]? = some (.cells #[.int .i64 4, .int .i64 1, .int .i64 1, .int .i64 9, .int .i64 2, .int .i64 7, .int .u64 10, .int .u64 0, .int .u64 0, .int .i64 0, .slice (some ⟨g, 0, none⟩) 1 1] 25) := alloc_at rfl
      go_wp2_with (first | ((with_reducible refine at_store_op ?_); refine wpList_store_lit 22 g 2 #[.int .i64 1, .int .i64 0, .int .u64 0, .int .u64 0, .slice none 0 0] (.int .u64 0) hg1 sz22 (Nat.le_of_ble_eq_true rfl) rfl rfl ?_ ?_ ?_; exact rfl; exact rfl; intro y2 hp2; have hg2 := hp2.at'; have hx2 := hp2.row hx1 (by have := HGL.out; omega); obtain ⟨p0, p1, p2, p3, p4, p5, p6, p7, p8, p9, p10⟩ := cells11 hx2; have HX2 := Lib.hid (hp2.below (B := wr.heap.size) HX1.out HX1.out.size HG.out)) | ((with_reducible refine at_store_op ?_); refine wpList_store_lit 3 g 1 #[.int .i64 1, .int .i64 0, .int .u64 5, .int .u64 0, .slice none 0 0] (.int .i64 0) hg0 sz3 (Nat.le_of_ble_eq_true rfl) rfl rfl ?_ ?_ ?_; exact rfl; exact rfl; intro y1 hp1; have hg1 := hp1.at'; have hx1 := hp1.row hx0 (by have := HGL.out; omega); obtain ⟨p0, p1, p2, p3, p4, p5, p6, p7, p8, p9, p10⟩ := cells11 hx1; have HX1 := Lib.hid (hp1.below (B := wr.heap.size) (HB1.out.trans (HX0.out.mono HB1.out.size)) (HB1.out.trans (HX0.out.mono HB1.out.size)).size HG.out)) | fail)
      clear p0 p1 p2 p3 p4 p5 p6 p7 p8 p9 p10
      have K17 := Lib.hid (terms_any ⟨4, 1, 1, 9, 2, 7, 10, 0, 0, 0, some ⟨g, 0, none⟩, 1, [⟨1, 0, 0, 0, none, 0, []⟩]⟩ y2 (one_ok hg2 _ rfl rfl rfl))
      rw [show termsV ⟨4, 1, 1, 9, 2, 7, 10, 0, 0, 0, some ⟨g, 0, none⟩, 1, [⟨1, 0, 0, 0, none, 0, []⟩]⟩ = 200 from by simp [termsV, itemP, maxS, bareP]] at K17
      unfold Con.agg at K17
      simp only [List.length_cons, List.length_nil, Nat.zero_add] at K17
      refine K17.out.mono ?_
      rintro r0 w5 ⟨rfl, hb⟩
      have HB5 := Lib.hid (HX2.out.trans (hb.mono HX2.out.size))
      have HO5 := Lib.hid (owns_below (B := 0) HO.out HB5.out)
      have HBW := Lib.hid (HB.out.trans (HB5.out.mono HB.out.size))
      have B1 := Lib.hid (show 6 + 1 ≤ maxLen from by unfold maxLen; decide)
      have B2 := Lib.hid (show (6 + 1) * 8 ≤ 140737488355328 from by decide)
      have B3 := Lib.hid (show w.heap.size ≤ (w5.alloc (.cells #[.int .i64 200] 3)).heap.size from by have := HBW.out.size; simp only [World.size_alloc]; omega)
      clear hb K17
      go_wp2_with (first
        | (go_at_call 13; refine (num_any _ _).mono ?_; rintro r0 w6 ⟨rfl, rfl⟩)
        | (at_builtin; refine wpList_append_sl_at rfl _ _ 42 rfl w.heap.size 3 (.int .i64 0) 1 8 Try.underlying42 infoI rfl (by decide) v 6 (vI (RF.take 6)) rfl (HO5.out.alloc _) (some ⟨w5.heap.size, 0, none⟩) 1 1 [.int .i64 200] rfl (fun h => by cases h) rfl (sl_new _ _ _ _) (one_int _ _) B1.out B2.out B3.out ?_; intro v2 w7 ho7 hg7 hl7)
        | fail)
      have HB7 := Lib.hid ((HBW.out.alloc HBW.out.size _).grown hg7 (HBW.out.alloc HBW.out.size _).size (fun k hk => (HO5.out.lt k hk).1))
      clear hg7 hl7
      go_roundw
      case rel => exact ⟨7, _, rfl, by omega, by omega, rfl, ho7, HB7.out⟩
      case measure => simp [intOf]
    · subst h
      clear hz0 hz9
      go_wp2_with fail
      refine (given_any wr).mono ?_
      rintro r0 w1 ⟨g, rfl, hg, hge, hb⟩
      have hg : w1.heap[g]? = some (.cells #[.int .i64 1, .int .i64 3, .int .u64 5, .int .u64 0, .slice none 0 0] 44) := hg
      have HG := Lib.hid hge
      have HB1 := Lib.hid hb
      have HGL := Lib.hid (lt_row hg)
      clear hge hb
      unfold givenC Con.agg
      simp only [List.length_cons, List.length_nil, Nat.zero_add]
      have HX0 := Lib.hid ((Below.refl w1.heap.size w1).alloc (Nat.le_refl _) (.cells #[.int .i64 4, .int .i64 1, .int .i64 1, .int .i64 9, .int .i64 2, .int .i64 7, .int .u64 10, .int .u64 0, .int .u64 0, .int .i64 0, .slice (some ⟨g, 0, none⟩) 1 1] 25))
      have hg0 : (w1.alloc (.cells #[.int .i64 4, .int .i64 1, .int .i64 1, .int .i64 9, .int .i64 2, .int .i64 7, .int .u64 10, .int .u64 0, .int .u64 0, .int .i64 0, .slice (some ⟨g, 0, none⟩) 1 1] 25)).heap[g]? = some (.cells #[.int .i64 1, .int .i64 3, .int .u64 5, .int .u64 0, .slice none 0 0] 44) := alloc_old hg
      have hx0 : (w1.alloc (.cells #[.int .i64 4, .int .i64 1, .int .i64 1, .int .i64 9, .int .i64 2, .int .i64 7, .int .u64 10, .int .u64 0, .int .u64 0, .int .i64 0, .slice (some ⟨g, 0, none⟩) 1 1] 25)).heap[w1.heap.size]? = some (.cells #[.int .i64 4, .int .i64 1, .int .i64 1, .int .i64 9, .int .i64 2, .int .i64 7, .int .u64 10, .int .u64 0, .int .u64 0, .int .i64 0, .slice (some ⟨g, 0, none⟩) 1 1] 25) := alloc_at rfl
      go_wp2_with (first | ((with_reducible refine at_store_op ?_); refine wpList_store_lit 22 g 3 #[.int .i64 1, .int .i64 3, .int .u64 5, .int .u64 1, .slice none 0 0] (.int .u64 1) hg0 sz22 (Nat.le_of_ble_eq_true rfl) rfl rfl ?_ ?_ ?_; exact rfl; exact rfl; intro y1 hp1; have hg1 := hp1.at'; have hx1 := hp1.row hx0 (by have := HGL.out; omega); obtain ⟨p0, p1, p2, p3, p4, p5, p6, p7, p8, p9, p10⟩ := cells11 hx1; have HX1 := Lib.hid (hp1.below (B := wr.heap.size) (HB1.out.trans (HX0.out.mono HB1.out.size)) (HB1.out.trans (HX0.out.mono HB1.out.size)).size HG.out)) | fail)
      clear p0 p1 p2 p3 p4 p5 p6 p7 p8 p9 p10
      have K17 := Lib.hid (terms_any ⟨4, 1, 1, 9, 2, 7, 10, 0, 0, 0, some ⟨g, 0, none⟩, 1, [⟨1, 3, 5, 1, none, 0, []⟩]⟩ y1 (one_ok hg1 _ rfl rfl rfl))
      rw [show termsV ⟨4, 1, 1, 9, 2, 7, 10, 0, 0, 0, some ⟨g, 0, none⟩, 1, [⟨1, 3, 5, 1, none, 0, []⟩]⟩ = 200 from by simp [termsV, itemP, maxS, bareP]] at K17
      unfold Con.agg at K17
      simp only [List.length_cons, List.length_nil, Nat.zero_add] at K17
      refine K17.out.mono ?_
      rintro r0 w5 ⟨rfl, hb⟩
      have HB5 := Lib.hid (HX1.out.trans (hb.mono HX1.out.size))
      have HO5 := Lib.hid (owns_below (B := 0) HO.out HB5.out)
      have HBW := Lib.hid (HB.out.trans (HB5.out.mono HB.out.size))
      have B1 := Lib.hid (show 7 + 1 ≤ maxLen from by unfold maxLen; decide)
      have B2 := Lib.hid (show (7 + 1) * 8 ≤ 140737488355328 from by decide)
      have B3 := Lib.hid (show w.heap.size ≤ (w5.alloc (.cells #[.int .i64 200] 3)).heap.size from by have := HBW.out.size; simp only [World.size_alloc]; omega)
      clear hb K17
      go_wp2_with (first
        | (go_at_call 13; refine (num_any _ _).mono ?_; rintro r0 w6 ⟨rfl, rfl⟩)
        | (at_builtin; refine wpList_append_sl_at rfl _ _ 42 rfl w.heap.size 3 (.int .i64 0) 1 8 Try.underlying42 infoI rfl (by decide) v 7 (vI (RF.take 7)) rfl (HO5.out.alloc _) (some ⟨w5.heap.size, 0, none⟩) 1 1 [.int .i64 200] rfl (fun h => by cases h) rfl (sl_new _ _ _ _) (one_int _ _) B1.out B2.out B3.out ?_; intro v2 w7 ho7 hg7 hl7)
        | fail)
      have HB7 := Lib.hid ((HBW.out.alloc HBW.out.size _).grown hg7 (HBW.out.alloc HBW.out.size _).size (fun k hk => (HO5.out.lt k hk).1))
      clear hg7 hl7
      go_roundw
      case rel => exact ⟨8, _, rfl, by omega, by omega, rfl, ho7, HB7.out⟩
      case measure => simp [intOf]
    · subst h
      clear hz0 hz9
      go_wp2_with fail
      refine (given_any wr).mono ?_
      rintro r0 w1 ⟨g, rfl, hg, hge, hb⟩
      have hg : w1.heap[g]? = some (.cells #[.int .i64 1, .int .i64 3, .int .u64 5, .int .u64 0, .slice none 0 0] 44) := hg
      have HG := Lib.hid hge
      have HB1 := Lib.hid hb
      have HGL := Lib.hid (lt_row hg)
      clear hge hb
      unfold givenC Con.agg
      simp only [List.length_cons, List.length_nil, Nat.zero_add]
      go_wp2_with fail
      have HX := Lib.hid ((Below.refl w1.heap.size w1).alloc (Nat.le_refl _) (.cells #[.int .i64 4, .int .i64 2, .int .i64 1, .int .i64 9, .int .i64 1, .int .i64 7, .int .u64 10, .int .u64 0, .int .u64 0, .int .i64 0, .slice (some ⟨g, 0, none⟩) 1 1] 25))
      have K17 := Lib.hid (terms_any ⟨4, 2, 1, 9, 1, 7, 10, 0, 0, 0, some ⟨g, 0, none⟩, 1, [⟨1, 3, 5, 0, none, 0, []⟩]⟩ (w1.alloc (.cells #[.int .i64 4, .int .i64 2, .int .i64 1, .int .i64 9, .int .i64 1, .int .i64 7, .int .u64 10, .int .u64 0, .int .u64 0, .int .i64 0, .slice (some ⟨g, 0, none⟩) 1 1] 25)) (one_ok (alloc_old hg) _ rfl rfl rfl))
      rw [show termsV ⟨4, 2, 1, 9, 1, 7, 10, 0, 0, 0, some ⟨g, 0, none⟩, 1, [⟨1, 3, 5, 0, none, 0, []⟩]⟩ = 200 from by simp [termsV, itemP, maxS, bareP]] at K17
      unfold Con.agg at K17
      simp only [List.length_cons, List.length_nil, Nat.zero_add] at K17
      refine K17.out.mono ?_
      rintro r0 w5 ⟨rfl, hb⟩
      have HB5 := Lib.hid (HB1.out.trans ((HX.out.trans (hb.mono HX.out.size)).mono HB1.out.size))
      have HO5 := Lib.hid (owns_below (B := 0) HO.out HB5.out)
      have HBW := Lib.hid (HB.out.trans (HB5.out.mono HB.out.size))
      have B1 := Lib.hid (show 8 + 1 ≤ maxLen from by unfold maxLen; decide)
      have B2 := Lib.hid (show (8 + 1) * 8 ≤ 140737488355328 from by decide)
      have B3 := Lib.hid (show w.heap.size ≤ (w5.alloc (.cells #[.int .i64 200] 3)).heap.size from by have := HBW.out.size; simp only [World.size_alloc]; omega)
      clear hb K17
      go_wp2_with (first
        | (go_at_call 13; refine (num_any _ _).mono ?_; rintro r0 w6 ⟨rfl, rfl⟩)
        | (at_builtin; refine wpList_append_sl_at rfl _ _ 42 rfl w.heap.size 3 (.int .i64 0) 1 8 Try.underlying42 infoI rfl (by decide) v 8 (vI (RF.take 8)) rfl (HO5.out.alloc _) (some ⟨w5.heap.size, 0, none⟩) 1 1 [.int .i64 200] rfl (fun h => by cases h) rfl (sl_new _ _ _ _) (one_int _ _) B1.out B2.out B3.out ?_; intro v2 w7 ho7 hg7 hl7)
        | fail)
      have HB7 := Lib.hid ((HBW.out.alloc HBW.out.size _).grown hg7 (HBW.out.alloc HBW.out.size _).size (fun k hk => (HO5.out.lt k hk).1))
      clear hg7 hl7
      go_roundw
      case rel => exact ⟨9, _, rfl, by omega, by omega, rfl, ho7, HB7.out⟩
      case measure => simp [intOf]
    · subst h
      go_wp2
      go_ret
      obtain ⟨ad, cap, hv, _, hsl, _⟩ := owns_slice HO.out
      exact ⟨ad, cap, by rw [hv]; rfl, hsl, HB.out⟩
    end Go.Proofs.Ytiafhgcnjgpeaaa
