/-
  Layer 20: End and Back, the program's.
-/
import Derived.Test.YtiafhgcnjgpeaaaWg
namespace Go.Proofs.Ytiafhgcnjgpeaaa
open Go.RowKit Go.K
set_option linter.unusedVariables false
set_option linter.unusedSimpArgs false

theorem end_any (c : Con) (w : World) (hc : ConOk w c) :
    Calls Try.prog 18 #[c.agg] w fun r w' => ∃ ad cap, r = .returned (.slice ad (backV c.es).length (backV c.es).length) ∧ w'.ownsRow w.heap.size 56 3 (.slice ad (backV c.es).length cap) (backV c.es).length (gFlat (backV c.es)) ∧ (ad = none → (backV c.es).length = 0 ∧ cap = 0) ∧ Below w.heap.size w w' := by
  obtain ⟨n, k, b, d, t, wn, p, r, s, o, ea, ec, es⟩ := c
  have HK := Lib.hid (fun V (h : Below w.heap.size w V) => give_acc V.heap.size (.slice none 0 0) 0 [] ea ec es V (Nat.le_refl _) (World.ownsRow_nil _ _ _ _) (by omega) hc.mx ((hc.kept h).sl) (fun x _ _ h => by cases h))
  clear hc
  unfold Con.agg
  simp only at HK ⊢
  go_enter Try.func18, Try.ntmps18
  have HB := Lib.hid ((Below.refl w.heap.size w).alloc (Nat.le_refl _) (.cells #[.int .i64 n, .int .i64 k, .int .i64 b, .int .i64 d, .int .i64 t, .int .i64 wn, .int .u64 p, .int .u64 r, .int .u64 s, .int .i64 o, .slice ea es.length ec] 25))
  go_wp2_with fail
  refine (HK.out _ HB.out).mono ?_
  rintro e w1 ⟨v, rfl, ho, hb⟩
  obtain ⟨ad, cap, rfl, hn0, hsl, hle⟩ := owns_slice ho
  have HB3 := Lib.hid (HB.out.trans (hb.mono (by simp)))
  have HO := Lib.hid (owns_base ho HB.out.size)
  simp only [Nat.zero_add, List.nil_append] at *
  have HN := Lib.hid hn0
  clear hb ho hsl hn0
  go_wp2
  go_ret
  exact ⟨_, _, rfl, HO.out, HN.out, HB3.out⟩
theorem back_any (c : Con) (w : World) (hc : ConOk w c) :
    Calls Try.prog 19 #[c.agg] w fun r w' => ∃ ad cap, r = .returned (.slice ad (backV c.es).length (backV c.es).length) ∧ w'.ownsRow w.heap.size 56 3 (.slice ad (backV c.es).length cap) (backV c.es).length (gFlat (backV c.es)) ∧ (ad = none → (backV c.es).length = 0 ∧ cap = 0) ∧ Below w.heap.size w w' := by
  have HK := Lib.hid (fun V (h : Below w.heap.size w V) => end_any c V (hc.kept h))
  clear hc
  obtain ⟨n, k, b, d, t, wn, p, r, s, o, ea, ec, es⟩ := c
  unfold Con.agg at HK ⊢
  simp only at HK ⊢
  go_enter Try.func19, Try.ntmps19
  have HB := Lib.hid ((Below.refl w.heap.size w).alloc (Nat.le_refl _) (.cells #[.int .i64 n, .int .i64 k, .int .i64 b, .int .i64 d, .int .i64 t, .int .i64 wn, .int .u64 p, .int .u64 r, .int .u64 s, .int .i64 o, .slice ea es.length ec] 25))
  go_wp2_with fail
  refine (HK.out _ HB.out).mono ?_
  rintro e w1 ⟨ad, cap, rfl, ho, hn0, hb⟩
  have HB3 := Lib.hid (HB.out.trans (hb.mono (by simp)))
  have HO := Lib.hid (owns_base ho HB.out.size)
  have HN := Lib.hid hn0
  clear hb ho hn0
  go_wp2
  go_ret
  exact ⟨_, _, rfl, HO.out, HN.out, HB3.out⟩
end Go.Proofs.Ytiafhgcnjgpeaaa
