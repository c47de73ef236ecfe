/-
  Layer 20: Join, the program's (printed by gen_join.py).
-/
import Derived.Test.YtiafhgcnjgpeaaaWl
namespace Go.Proofs.Ytiafhgcnjgpeaaa
open Go.RowKit Go.K
set_option linter.unusedVariables false
set_option linter.unusedSimpArgs false
set_option maxRecDepth 100000 in
set_option maxHeartbeats 8000000 in
theorem join_any (c : Con) (e : Ent) (w : World) (hc : ConOk w c) (he : EntOk w e) : Calls Try.prog 26 #[c.agg, e.agg] w (JoinAns c e w) := by
  by_cases hnj : joinV c e = 0
  · exact join_yes c e w hc he hnj
  have HNJ := Lib.hid hnj
  clear hnj
  have HC := Lib.hid hc
  have HE := Lib.hid he
  have HK17 := Lib.hid (fun V (h : Below w.heap.size w V) => terms_any c V (hc.kept h))
  have HK40 := Lib.hid (fun V : World => bare_any e V)
  clear hc he
  unfold Con.agg Ent.agg at *
  go_enter Try.func26, Try.ntmps26
  have HB0 := Lib.hid ((((Below.refl w.heap.size w).alloc (Nat.le_refl _) (.cells #[.int .i64 c.num, .int .i64 c.kind, .int .i64 c.by', .int .i64 c.dl, .int .i64 c.to, .int .i64 c.want, .int .u64 c.price, .int .u64 c.reserve, .int .u64 c.step, .int .i64 c.of', .slice c.ea c.es.length c.ec] 25)).alloc (by simp) (.cells #[.int .i64 e.acc, .int .i64 e.item, .int .u64 e.coins, .int .u64 e.price, .slice e.wa e.ws.length e.wc] 44)).alloc (by simp; omega) (.cells #[.int .i64 0, .int .i64 0, .int .i64 0, .int .i64 0, .int .i64 0, .int .i64 0, .int .u64 0, .int .u64 0, .int .u64 0, .int .i64 0, .slice none 0 0] 25))
  go_wp2_with fail
  with_reducible refine (HK17.out _ HB0.out).mono ?_
  rintro r0 w1 ⟨rfl, hb1⟩
  have R1 := Lib.hid (show Box w1 w.heap.size c from row_kept (alloc_old (alloc_old (alloc_at rfl))) hb1)
  have E1 := Lib.hid (show EBox w1 (w.heap.size + 1) e from row_kept (alloc_old (alloc_at (by simp))) hb1)
  have Z1 := Lib.hid (show Box w1 (w.heap.size + 1 + 1) conZ from row_kept (alloc_at (by simp)) hb1)
  have HB1 := Lib.hid (HB0.out.trans (hb1.mono (by simp; omega)))
  clear hb1
  obtain ⟨p0, p1, p2, p3, p4, p5, p6, p7, p8, p9, p10⟩ := R1.out.cells
  obtain ⟨q0, q1, q2, q3, q4⟩ := E1.out.cells
  by_cases h0 : termsV c = 0
  case neg =>
    have HT0 := Lib.hid h0
    have t0 : (termsV c != 0) = true := by simpa using h0
    have HJ := Lib.hid (joinV_a (e := e) h0)
    clear h0
    go_wp2_with (refine wpList_store_lit 25 (w.heap.size + 1 + 1) 0 #[.int .i64 0, .int .i64 0, .int .i64 0, .int .i64 0, .int .i64 0, .int .i64 0, .int .u64 0, .int .u64 0, .int .u64 0, .int .i64 0, .slice none 0 0] (.agg #[.int .i64 0, .int .i64 0, .int .i64 0, .int .i64 0, .int .i64 0, .int .i64 0, .int .u64 0, .int .u64 0, .int .u64 0, .int .i64 0, .slice none 0 0]) Z1.out sz25 (Nat.le_of_ble_eq_true rfl) rfl rfl ?_ ?_ ?_; exact rfl; exact rfl; intro w9 hp9)
    have HB9 := hp9.below HB1.out HB1.out.size (by omega)
    exact bodyPost_ret (results_row_tmp3 Try.results26 _ _ (w.heap.size + 1 + 1) 25 _ _ _ rfl hp9.at' Try.underlying25 rfl sz25) rfl (join_no (termsV c) HJ.out (by first | decide | exact HT0.out) rfl HB9)
  case pos =>
    have HT0 := Lib.hid h0
    have HT1 := Lib.hid (show (termsV c != 0) = false by simpa using h0)
    rw [h0]
    clear h0
    by_cases h1 : e.acc = c.by'
    · have t1 : (e.acc == c.by') = true := by simpa using h1
      have HJ := Lib.hid (joinV_b HT0.out h1)
      clear h1
      go_wp2_with (refine wpList_store_lit 25 (w.heap.size + 1 + 1) 0 #[.int .i64 0, .int .i64 0, .int .i64 0, .int .i64 0, .int .i64 0, .int .i64 0, .int .u64 0, .int .u64 0, .int .u64 0, .int .i64 0, .slice none 0 0] (.agg #[.int .i64 0, .int .i64 0, .int .i64 0, .int .i64 0, .int .i64 0, .int .i64 0, .int .u64 0, .int .u64 0, .int .u64 0, .int .i64 0, .slice none 0 0]) Z1.out sz25 (Nat.le_of_ble_eq_true rfl) rfl rfl ?_ ?_ ?_; exact rfl; exact rfl; intro w9 hp9)
      have HB9 := hp9.below HB1.out HB1.out.size (by omega)
      exact bodyPost_ret (results_row_tmp3 Try.results26 _ _ (w.heap.size + 1 + 1) 25 _ _ _ rfl hp9.at' Try.underlying25 rfl sz25) rfl (join_no 234 HJ.out (by first | decide | exact HT0.out) rfl HB9)
    · have t1 : (e.acc == c.by') = false := by simpa using h1
      have H1 := Lib.hid h1
      clear h1
      by_cases h2 : e.acc = c.to
      case neg =>
        have t2 : (e.acc != c.to) = true := by simpa using h2
        have HJ := Lib.hid (joinV_c HT0.out H1.out (.inl h2))
        clear h2
        go_wp2_with (refine wpList_store_lit 25 (w.heap.size + 1 + 1) 0 #[.int .i64 0, .int .i64 0, .int .i64 0, .int .i64 0, .int .i64 0, .int .i64 0, .int .u64 0, .int .u64 0, .int .u64 0, .int .i64 0, .slice none 0 0] (.agg #[.int .i64 0, .int .i64 0, .int .i64 0, .int .i64 0, .int .i64 0, .int .i64 0, .int .u64 0, .int .u64 0, .int .u64 0, .int .i64 0, .slice none 0 0]) Z1.out sz25 (Nat.le_of_ble_eq_true rfl) rfl rfl ?_ ?_ ?_; exact rfl; exact rfl; intro w9 hp9)
        have HB9 := hp9.below HB1.out HB1.out.size (by omega)
        exact bodyPost_ret (results_row_tmp3 Try.results26 _ _ (w.heap.size + 1 + 1) 25 _ _ _ rfl hp9.at' Try.underlying25 rfl sz25) rfl (join_no 200 HJ.out (by first | decide | exact HT0.out) rfl HB9)
      case pos =>
        have t2 : (e.acc != c.to) = false := by simpa using h2
        have H2 := Lib.hid h2
        clear h2
        go_wp2_with fail
        with_reducible refine (HK40.out _).mono ?_
        rintro r0 w2 ⟨rfl, hb2⟩
        have R2 := Lib.hid (R1.out.kept hb2)
        have E2 := Lib.hid (E1.out.kept hb2)
        have Z2 := Lib.hid (Z1.out.kept hb2)
        have HB2 := Lib.hid (HB1.out.trans (hb2.mono HB1.out.size))
        clear hb2
        clear p0 p1 p2 p3 p4 p5 p6 p7 p8 p9 p10
        clear q0 q1 q2 q3 q4
        obtain ⟨p0, p1, p2, p3, p4, p5, p6, p7, p8, p9, p10⟩ := R2.out.cells
        obtain ⟨q0, q1, q2, q3, q4⟩ := E2.out.cells
        by_cases h3 : bareP e = true
        case neg =>
          have t3 : bareP e = false := by simpa using h3
          have HJ := Lib.hid (joinV_c HT0.out H1.out (.inr (.inl t3)))
          clear h3
          go_wp2_with (refine wpList_store_lit 25 (w.heap.size + 1 + 1) 0 #[.int .i64 0, .int .i64 0, .int .i64 0, .int .i64 0, .int .i64 0, .int .i64 0, .int .u64 0, .int .u64 0, .int .u64 0, .int .i64 0, .slice none 0 0] (.agg #[.int .i64 0, .int .i64 0, .int .i64 0, .int .i64 0, .int .i64 0, .int .i64 0, .int .u64 0, .int .u64 0, .int .u64 0, .int .i64 0, .slice none 0 0]) Z2.out sz25 (Nat.le_of_ble_eq_true rfl) rfl rfl ?_ ?_ ?_; exact rfl; exact rfl; intro w9 hp9)
          have HB9 := hp9.below HB2.out HB2.out.size (by omega)
          exact bodyPost_ret (results_row_tmp3 Try.results26 _ _ (w.heap.size + 1 + 1) 25 _ _ _ rfl hp9.at' Try.underlying25 rfl sz25) rfl (join_no 200 HJ.out (by first | decide | exact HT0.out) rfl HB9)
        case pos =>
          have H3 := Lib.hid h3
          by_cases h4 : e.item = c.want
          case neg =>
            have t4 : (e.item != c.want) = true := by simpa using h4
            have HJ := Lib.hid (joinV_c HT0.out H1.out (.inr (.inr (.inl h4))))
            clear h4
            go_wp2_with (refine wpList_store_lit 25 (w.heap.size + 1 + 1) 0 #[.int .i64 0, .int .i64 0, .int .i64 0, .int .i64 0, .int .i64 0, .int .i64 0, .int .u64 0, .int .u64 0, .int .u64 0, .int .i64 0, .slice none 0 0] (.agg #[.int .i64 0, .int .i64 0, .int .i64 0, .int .i64 0, .int .i64 0, .int .i64 0, .int .u64 0, .int .u64 0, .int .u64 0, .int .i64 0, .slice none 0 0]) Z2.out sz25 (Nat.le_of_ble_eq_true rfl) rfl rfl ?_ ?_ ?_; exact rfl; exact rfl; intro w9 hp9)
            have HB9 := hp9.below HB2.out HB2.out.size (by omega)
            exact bodyPost_ret (results_row_tmp3 Try.results26 _ _ (w.heap.size + 1 + 1) 25 _ _ _ rfl hp9.at' Try.underlying25 rfl sz25) rfl (join_no 200 HJ.out (by first | decide | exact HT0.out) rfl HB9)
          case pos =>
            have t4 : (e.item != c.want) = false := by simpa using h4
            have H4 := Lib.hid h4
            clear h4
            by_cases h5 : e.coins = c.price
            case neg =>
              have t5 : (e.coins != c.price) = true := by simpa using h5
              have HJ := Lib.hid (joinV_c HT0.out H1.out (.inr (.inr (.inr h5))))
              clear h5
              go_wp2_with (refine wpList_store_lit 25 (w.heap.size + 1 + 1) 0 #[.int .i64 0, .int .i64 0, .int .i64 0, .int .i64 0, .int .i64 0, .int .i64 0, .int .u64 0, .int .u64 0, .int .u64 0, .int .i64 0, .slice none 0 0] (.agg #[.int .i64 0, .int .i64 0, .int .i64 0, .int .i64 0, .int .i64 0, .int .i64 0, .int .u64 0, .int .u64 0, .int .u64 0, .int .i64 0, .slice none 0 0]) Z2.out sz25 (Nat.le_of_ble_eq_true rfl) rfl rfl ?_ ?_ ?_; exact rfl; exact rfl; intro w9 hp9)
              have HB9 := hp9.below HB2.out HB2.out.size (by omega)
              exact bodyPost_ret (results_row_tmp3 Try.results26 _ _ (w.heap.size + 1 + 1) 25 _ _ _ rfl hp9.at' Try.underlying25 rfl sz25) rfl (join_no 200 HJ.out (by first | decide | exact HT0.out) rfl HB9)
            case pos =>
              have t5 : (e.coins != c.price) = false := by simpa using h5
              have HJ := Lib.hid (joinV_d HT0.out H1.out (by have h1 := H2.out; have h2 := H3.out; have h4 := H4.out; simp [h1, h2, h4, h5]))
              clear h5
              exact absurd HJ.out HNJ.out
end Go.Proofs.Ytiafhgcnjgpeaaa
