/-
  Layer 6: known: words that the document names, and a table of two.
-/
import Derived.Test.YtndhlgbpfkidbaaTc
import Derived.Test.YtndhlgbpfkidbaaWc
namespace Go.Proofs.Ytndhlgbpfkidbaa
open Go.RowKit Go.K Go.Dice
set_option linter.unusedVariables false
set_option linter.unusedSimpArgs false
theorem num_any (x : Int) (w : World) : Calls Try.prog 23 #[.int .i64 x] w fun e w' => e = .returned (.int .i64 x) ∧ w = w' := by
  go_enter Try.func23, Try.ntmps23
  go_wp2
  go_ret
  exact ⟨rfl, rfl⟩
theorem tlen_any (g : Nat) (w : World) (h : Cl w g 96 770 tF) : Calls Try.prog 24 #[.pointer (some ⟨g, 0, none⟩)] w fun e w' => e = .returned (.int .i64 2) ∧ w = w' := by
  have z0 := h.cell (k := 0) (v := .int .i64 2) rfl
  clear h
  go_enter Try.func24, Try.ntmps24
  go_wp2
  go_ret
  exact ⟨rfl, rfl⟩
theorem twhole_any (g : Nat) (w : World) (h : Cl w g 96 770 tF) : Calls Try.prog 25 #[.pointer (some ⟨g, 0, none⟩)] w fun e w' => e = .returned (.int .i64 1073741824) ∧ w = w' := by
  have z0 := h.cell (k := 1) (v := .int .i64 1073741824) rfl
  clear h
  go_enter Try.func25, Try.ntmps25
  go_wp2
  go_ret
  exact ⟨rfl, rfl⟩
theorem tchance_any (g : Nat) (w : World) (h : Cl w g 96 770 tF) : Calls Try.prog 27 #[.pointer (some ⟨g, 0, none⟩), .int .i64 0] w fun e w' => e = .returned (.int .i64 805306368) ∧ w = w' := by
  have z0 := h.cell (k := 2) (v := .int .i64 805306368) rfl
  go_enter Try.func27, Try.ntmps27
  go_wp2_with fail
  refine (tlen_any g w h).mono ?_
  rintro r0 w1 ⟨rfl, rfl⟩
  go_wp2
  go_ret
  exact ⟨rfl, rfl⟩
theorem u42 : U64 42#64 = 42 := by decide
theorem u54 : U64 54#64 = 54 := by decide
theorem word1 : U32 (dword (newS 42#64 54#64)) = 2707161783 := by decide +kernel
theorem word2 : U32 (dword (dstep (seedA 54#64) (newS 42#64 54#64))) = 2068313097 := by decide +kernel
set_option maxRecDepth 100000 in
set_option maxHeartbeats 4000000 in
theorem known_any (w : World) : Calls Try.prog 20 #[] w fun e w' => e = .returned (.bool true) ∧ Below w.heap.size w w' := by
  have K1 := new_any 42#64 54#64 w
  rw [u42, u54] at K1
  have K1 := Lib.hid K1
  go_enter Try.func20, Try.ntmps20
  go_wp2_with fail
  refine K1.out.mono ?_
  rintro r0 w1 ⟨rfl, hb1, hr1⟩
  obtain ⟨g, hg⟩ : ∃ g, g = w.heap.size := ⟨_, rfl⟩
  rw [← hg] at hr1 ⊢
  have HG := Lib.hid hg
  have K2 := word_any g _ _ w1 hr1
  rw [word1] at K2
  have K2 := Lib.hid K2
  have HB1 := Lib.hid hb1
  clear hb1 hr1 hg K1
  go_wp2_with fail
  refine K2.out.mono ?_
  rintro r0 w2 ⟨rfl, hg2, hr2⟩
  have K3 := word_any g _ _ w2 hr2
  rw [word2] at K3
  have K3 := Lib.hid K3
  have HB2 := Lib.hid (show Below w.heap.size w w2 from HB1.out.grown hg2 HB1.out.size (fun k hk => by injection hk with e; have := HG.out; omega))
  clear hg2 hr2 K2
  go_wp2_with fail
  refine K3.out.mono ?_
  rintro r0 w3 ⟨rfl, hg3, hr3⟩
  have HB3 := Lib.hid (show Below w.heap.size w w3 from HB2.out.grown hg3 HB2.out.size (fun k hk => by injection hk with e; have := HG.out; omega))
  clear hg3 hr3 K3
  go_wp2_with fail
  have KM := Lib.hid (make_any w3.heap.size 2 (w3.alloc (.cells #[.float .f32 1077936128, .float .f32 1065353216] 58)) (sl_new w3 [.float .f32 1077936128, .float .f32 1065353216] 58 (0, 0)))
  refine KM.out.mono ?_
  rintro r0 w4 ⟨t, rfl, hc4, hb4⟩
  have HC := Lib.hid hc4
  have HB4 := Lib.hid (show Below w.heap.size w w4 from (HB3.out.alloc HB3.out.size _).trans (hb4.mono (HB3.out.alloc HB3.out.size _).size))
  clear hc4 hb4 KM
  go_wp2_with fail
  refine (num_any 0 w4).mono ?_
  rintro r0 w5 ⟨rfl, rfl⟩
  go_wp2_with fail
  refine (tlen_any t w4 HC.out).mono ?_
  rintro r0 w5 ⟨rfl, rfl⟩
  go_wp2_with fail
  refine (twhole_any t w4 HC.out).mono ?_
  rintro r0 w5 ⟨rfl, rfl⟩
  go_wp2_with fail
  refine (tchance_any t w4 HC.out).mono ?_
  rintro r0 w5 ⟨rfl, rfl⟩
  go_wp2
  go_ret
  exact ⟨rfl, HB4.out⟩
end Go.Proofs.Ytndhlgbpfkidbaa
