/-
  Layer 20: awake.
-/
import Derived.Test.YtiafhgcnjgpeaaaZb
import Derived.Test.YtiafhgcnjgpeaaaWm
namespace Go.Proofs.Ytiafhgcnjgpeaaa
open Go.RowKit Go.K
set_option linter.unusedVariables false
set_option linter.unusedSimpArgs false

set_option maxRecDepth 100000 in
set_option maxHeartbeats 2000000 in
theorem awake_any (w : World) : Calls Try.prog 30 #[] w fun r w' => r = .returned (.bool true) ∧ Below w.heap.size w w' := by
  go_enter Try.func30, Try.ntmps30
  go_wp2_with fail
  refine (given_any w).mono ?_
  rintro r0 w1 ⟨g, rfl, hg, hge, hb1⟩
  have HB1 := Lib.hid hb1
  have K17 := Lib.hid (terms_any (givenC g) w1 hg.ok)
  rw [given_terms] at K17
  clear hb1 hg hge
  unfold givenC Con.agg at *
  simp only at *
  go_wp2_with fail
  refine K17.out.mono ?_
  rintro r0 w2 ⟨rfl, hb⟩
  have HB2 := Lib.hid (HB1.out.trans (hb.mono HB1.out.size))
  clear hb K17
  go_wp2_with fail
  refine (given_any w2).mono ?_
  rintro r0 w3 ⟨g', rfl, hg, hge, hb⟩
  have HB3 := Lib.hid (HB2.out.trans (hb.mono HB2.out.size))
  have K26 := Lib.hid (join_any (givenC g') entD w3 hg.ok (entD_ok _))
  clear hb hge hg
  unfold JoinAns at K26
  rw [given_join, given_joinG] at K26
  have HJC := Lib.hid (show joinC (givenC g') entD = (givenC g').less from if_pos (given_join g'))
  rw [HJC.out] at K26
  unfold givenC Con.less entD Con.agg Ent.agg at *
  simp only at *
  simp only [List.length_cons, List.length_nil, Nat.zero_add, Nat.reduceAdd, decide_true] at K26 ⊢
  go_wp2_with fail
  refine K26.out.mono ?_
  rintro r0 w4 ⟨ad, cap, rfl, ho, hn, hb⟩
  have HB4 := Lib.hid (HB3.out.trans (hb.mono HB3.out.size))
  have HO := Lib.hid ho
  have HB5 := Lib.hid (HB4.out.alloc HB4.out.size (.cells #[.int .i64 4, .int .i64 1, .int .i64 1, .int .i64 9, .int .i64 2, .int .i64 7, .int .u64 10, .int .u64 0, .int .u64 0, .int .i64 0, .slice none 0 0] 25))
  have HS := Lib.hid (show Sl ((w4.alloc (.cells #[.int .i64 4, .int .i64 1, .int .i64 1, .int .i64 9, .int .i64 2, .int .i64 7, .int .u64 10, .int .u64 0, .int .u64 0, .int .i64 0, .slice none 0 0] 25)).alloc (.cells [.int .i64 2, .int .i64 3, .int .u64 0, .int .i64 2, .int .i64 0, .int .u64 5, .int .i64 1, .int .i64 7, .int .u64 0, .int .i64 1, .int .i64 0, .int .u64 10].toArray 56)) ad (gFlat [⟨2, 3, 0⟩, ⟨2, 0, 5⟩, ⟨1, 7, 0⟩, ⟨1, 0, 10⟩]) from ((sl_owns ho).kept (((Below.refl _ _).alloc (Nat.le_refl _) _).alloc (by simp) _)))
  have K22 := Lib.hid (show Calls Try.prog 22 #[.slice ad 4 4, .slice (some ⟨(w4.alloc (.cells #[.int .i64 4, .int .i64 1, .int .i64 1, .int .i64 9, .int .i64 2, .int .i64 7, .int .u64 10, .int .u64 0, .int .u64 0, .int .i64 0, .slice none 0 0] 25)).heap.size, 0, none⟩) 4 4] ((w4.alloc (.cells #[.int .i64 4, .int .i64 1, .int .i64 1, .int .i64 9, .int .i64 2, .int .i64 7, .int .u64 10, .int .u64 0, .int .u64 0, .int .i64 0, .slice none 0 0] 25)).alloc (.cells #[.int .i64 2, .int .i64 3, .int .u64 0, .int .i64 2, .int .i64 0, .int .u64 5, .int .i64 1, .int .i64 7, .int .u64 0, .int .i64 1, .int .i64 0, .int .u64 10] 56)) _ from gifts_true ad (some ⟨(w4.alloc (.cells #[.int .i64 4, .int .i64 1, .int .i64 1, .int .i64 9, .int .i64 2, .int .i64 7, .int .u64 10, .int .u64 0, .int .u64 0, .int .i64 0, .slice none 0 0] 25)).heap.size, 0, none⟩) 4 4 [⟨2, 3, 0⟩, ⟨2, 0, 5⟩, ⟨1, 7, 0⟩, ⟨1, 0, 10⟩] ((w4.alloc (.cells #[.int .i64 4, .int .i64 1, .int .i64 1, .int .i64 9, .int .i64 2, .int .i64 7, .int .u64 10, .int .u64 0, .int .u64 0, .int .i64 0, .slice none 0 0] 25)).alloc (.cells [.int .i64 2, .int .i64 3, .int .u64 0, .int .i64 2, .int .i64 0, .int .u64 5, .int .i64 1, .int .i64 7, .int .u64 0, .int .i64 1, .int .i64 0, .int .u64 10].toArray 56)) (by decide) HS.out (sl_new (w4.alloc (.cells #[.int .i64 4, .int .i64 1, .int .i64 1, .int .i64 9, .int .i64 2, .int .i64 7, .int .u64 10, .int .u64 0, .int .u64 0, .int .i64 0, .slice none 0 0] 25)) [.int .i64 2, .int .i64 3, .int .u64 0, .int .i64 2, .int .i64 0, .int .u64 5, .int .i64 1, .int .i64 7, .int .u64 0, .int .i64 1, .int .i64 0, .int .u64 10] 56 (0, 0)))
  simp only [World.size_alloc] at K22
  clear hb ho hn K26
  go_wp2_with (first
    | (go_at_call 13; refine (num_any _ _).mono ?_; rintro r0 w6 ⟨rfl, rfl⟩)
    | fail)
  with_reducible refine K22.out.mono ?_
  rintro r0 w6 ⟨rfl, hq⟩
  have HB6 := Lib.hid ((HB5.out.alloc HB5.out.size _).trans (hq.below _))
  go_wp2
  go_ret
  exact ⟨rfl, HB6.out⟩
end Go.Proofs.Ytiafhgcnjgpeaaa
