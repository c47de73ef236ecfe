/-
  Layer 19: the insertion sort of a piece of a row, walked.
-/
import Derived.Test.YthadfopkacbnlaaSb
namespace Go.Proofs.Ythadfopkacbnlaa
open Go.RowKit Go.K Go.Stab
set_option linter.unusedVariables false
set_option linter.unusedSimpArgs false
variable {rs : List Value} {cp : Nat}
theorem swp_right (c : Nat → Nat) (m k : Nat) (h0 : 0 < k) (hk : k ≤ m) : swp (rot c k m (m + 1)) k (k - 1) = rot c (k - 1) m (m + 1) := by
  funext l
  unfold swp rot
  by_cases h1 : l = k
  · subst h1
    rw [if_pos rfl, if_neg (by omega), if_neg (by omega), if_neg (by omega), if_pos (by omega)]
    congr 1; omega
  · rw [if_neg h1]
    by_cases h2 : l = k - 1
    · rw [if_pos h2, if_pos (by omega), if_pos (by omega)]
      congr 1; omega
    · rw [if_neg h2]
      by_cases h3 : k < l ∧ l < m + 1
      · rw [if_neg (by omega), if_pos (by omega), if_neg (by omega), if_pos (by omega)]
      · rw [if_neg (by omega), if_neg (by omega), if_neg (by omega), if_neg (by omega)]
theorem swp_left (c : Nat → Nat) (a k : Nat) (hk : a ≤ k) : swp (rot c a (a + 1) (k + 1)) k (k + 1) = rot c a (a + 1) (k + 2) := by
  funext l
  unfold swp rot
  by_cases h1 : l = k
  · subst h1
    rw [if_pos rfl, if_neg (by omega), if_neg (by omega), if_pos (by omega)]
    congr 1; omega
  · rw [if_neg h1]
    by_cases h2 : l = k + 1
    · subst h2
      rw [if_pos rfl, if_neg (by omega), if_pos (by omega), if_neg (by omega), if_pos (by omega)]
      congr 1; omega
    · rw [if_neg h2]
      by_cases h3 : a ≤ l ∧ l < k
      · rw [if_pos (by omega), if_pos (by omega)]
      · rw [if_neg (by omega), if_neg (by omega), if_neg (by omega), if_neg (by omega)]
/-- The function value that compares. -/
def fvc (cb lb : Nat) : Value := .func (.func 27) #[] #[.pointer (some ⟨cb, 0, none⟩)]
/-- What it answers, whatever stands in the row. -/
def CmpC (zf : Nat → Nat → Int) (N g cb lb : Nat) (w : World) : Prop := ∀ V, Only (fun k => k = g) w V → ∀ x y : Nat, x < N → y < N →
  Calls Try.prog 27 #[.int .i64 x, .int .i64 y, .pointer (some ⟨cb, 0, none⟩)] V fun r V' => r = .returned (.int .i64 (zf x y)) ∧ Qt V V'
def zL (zf : Nat → Nat → Int) (x y : Nat) : Bool := decide (zf x y < 0)
theorem CmpC.only {zf : Nat → Nat → Int} {N g cb lb : Nat} {w W : World} (h : CmpC zf N g cb lb w) (ho : Only (fun k => k = g) w W) : CmpC zf N g cb lb W := fun V hV => h V (ho.trans hV (fun k hk => .inl hk))
theorem bnd_of {c d : Nat → Nat} {a b n N : Nat} (ho : Out c d a b) (hp : Prm c d a b) (hb : b ≤ n) (h : ∀ k, k < n → c k < N) : ∀ k, k < n → d k < N := fun k hk => by
  by_cases h1 : a ≤ k ∧ k < b
  · obtain ⟨l, l1, l2, l3⟩ := hp.mem h1.1 h1.2
    rw [l3]; exact h l (by omega)
  · rw [ho k (by omega)]; exact h k hk
set_option maxRecDepth 100000 in
set_option maxHeartbeats 1000000 in
theorem insert_any (zf : Nat → Nat → Int) (T : Nat → Nat → Prop) (htr : ∀ x y z, T x y → T y z → T x z) (g n a b cb lb N : Nat) (c : Nat → Nat) (w : World) (hn : n < 4611686018427387904) (hr : Rw rs w g n c) (h1 : a ≤ b) (h2 : b ≤ n)
    (hN : ∀ k, k < n → c k < N) (hC : CmpC zf N g cb lb w) (ht : ∀ x y, a ≤ x → x < y → y < b → (zL zf (c y) (c x) = true → T (c y) (c x)) ∧ (zL zf (c y) (c x) = false → T (c x) (c y))) :
    Calls Try.prog 54 #[.slice (some ⟨g, 0, none⟩) n cp, .int .i64 a, .int .i64 b, fvc cb lb] w fun r w' => r = .returned (.tuple #[]) ∧ Only (fun x => x = g) w w' ∧ ∃ d, Rw rs w' g n d ∧ Srt T d a b ∧ Out c d a b ∧ Prm c d a b := by
  have HR := Lib.hid hr
  have HN := Lib.hid hN
  have HC := Lib.hid hC
  have HT := Lib.hid ht
  have w1 : IntKind.i64.wrap ((a : Int) + 1) = ((a + 1 : Nat) : Int) := by rw [IntKind.wrap_i64]; omega
  obtain ⟨a1, ha1⟩ : ∃ a1, a1 = a + 1 := ⟨_, rfl⟩
  rw [← ha1] at w1
  have HA1 := Lib.hid ha1
  have HAB := Lib.hid (show a ≤ b ∧ b ≤ n from ⟨h1, h2⟩)
  clear hr hN hC ht ha1 h1 h2
  unfold fvc
  go_enter Try.func54, Try.ntmps54
  go_wp2
  go_loopw [8, 9] (fun x8 x9 V => ∃ (i : Nat) (d : Nat → Nat), a < i ∧ (i ≤ b ∨ i = a + 1) ∧ x8 = .int .i64 i ∧ Rw rs V g n d ∧ Srt T d a i ∧ Out c d a i ∧ Prm c d a i ∧ Only (fun x => x = g) w V) (fun x8 _ _ => b - (intOf x8).toNat)
  case atStart => exact ⟨a1, c, by have := HA1.out; omega, .inr HA1.out, rfl, HR.out, fun i j hi hij hj => by have := HA1.out; omega, Out.refl _ _ _, Prm.refl _ _ _, Only.refl _ _⟩
  case round =>
    obtain ⟨i, d, hi, hib, rfl, hm, hs, ho1, hp1, ho⟩ := hrel
    have HM := Lib.hid hm
    have HS := Lib.hid hs
    have HO1 := Lib.hid ho1
    have HP1 := Lib.hid hp1
    have HO := Lib.hid ho
    clear hm hs ho1 hp1 ho HR w1
    obtain ⟨wa, h⟩ : ∃ W, W = wr := ⟨_, rfl⟩
    subst h
    by_cases hlt : i < b
    · have t0 : decide ((i : Int) < (b : Int)) = true := decide_eq_true (by omega)
      have t0n : decide (i < b) = true := decide_eq_true hlt
      have HB := Lib.hid (bnd_of HO1.out HP1.out (by have := HAB.out; omega) HN.out)
      have HTI := Lib.hid (show Tie (zL zf) T d a i (i + 1) from fun x y hx hxi hy hyi => by
        have hyy : y = i := by omega
        subst hyy
        obtain ⟨l, l1, l2, l3⟩ := HP1.out.mem hx hxi
        rw [l3, HO1.out y (.inr (Nat.le_refl _))]
        exact HT.out l y l1 (by omega) hlt)
      have HI := Lib.hid (show a < i ∧ i < b from ⟨hi, hlt⟩)
      have w2 : IntKind.i64.wrap ((i : Int) + 1) = ((i + 1 : Nat) : Int) := by rw [IntKind.wrap_i64]; have := HAB.out; omega
      obtain ⟨i1, hi1⟩ : ∃ i1, i1 = i + 1 := ⟨_, rfl⟩
      rw [← hi1] at w2
      have HI1 := Lib.hid hi1
      clear hi hib hlt hi1
      go_wp2
      go_loopw [9] (fun x9 V => ∃ j : Nat, a ≤ j ∧ j ≤ i ∧ x9 = .int .i64 j ∧ Rw rs V g n (rot d j i (i + 1)) ∧ (j = i ∨ zL zf (d i) (d j) = true) ∧ Only (fun x => x = g) w V) (fun x9 _ => (intOf x9).toNat)
      case atStart => exact ⟨i, by have := HI.out; omega, Nat.le_refl _, rfl, by rw [rot_none d (.inl rfl)]; exact HM.out, .inl rfl, HO.out⟩
      case round =>
        obtain ⟨j, hj1, hj2, rfl, hm, hl, ho⟩ := hrel
        have HMj := Lib.hid hm
        have HLj := Lib.hid hl
        have HOj := Lib.hid ho
        clear hm hl ho HM HO
        have HJ := Lib.hid (show a ≤ j ∧ j ≤ i from ⟨hj1, hj2⟩)
        have hjn : j < n := by have := HI.out; have := HAB.out; omega
        by_cases hja : a < j
        · have t1 : decide ((a : Int) < (j : Int)) = true := decide_eq_true (by omega)
          have t1n : decide (a < j) = true := decide_eq_true hja
          obtain ⟨j1, hj1'⟩ : ∃ j1, j1 = j - 1 := ⟨_, rfl⟩
          have w3 : IntKind.i64.wrap ((j : Int) - 1) = (j1 : Int) := by rw [IntKind.wrap_i64]; omega
          have ij : (j : Int) < (n : Int) := by omega
          have ij1 : (j1 : Int) < (n : Int) := by omega
          have e1 : rot d j i (i + 1) j = d i := by unfold rot; rw [if_pos (by omega)]; congr 1; omega
          have e2 : rot d j i (i + 1) j1 = d j1 := rot_out d hj2 (by omega) j1 (.inl (by omega))
          obtain ⟨D, hD⟩ : ∃ D, D = rot d j i (i + 1) := ⟨_, rfl⟩
          rw [← hD] at HMj e1 e2
          obtain ⟨x, hx⟩ : ∃ x, x = d i := ⟨_, rfl⟩
          obtain ⟨y, hy⟩ : ∃ y, y = d j1 := ⟨_, rfl⟩
          have HXN := Lib.hid (show x < N ∧ y < N from ⟨by rw [hx]; exact HB.out i (by have := HI.out; have := HAB.out; omega), by rw [hy]; exact HB.out j1 (by omega)⟩)
          rw [← hx] at e1
          rw [← hy] at e2
          have HCC := Lib.hid (show ∀ Wx, (Rw rs Wx g n D ∧ Only (fun k => k = g) w Wx) → Calls Try.prog 27 #[.int .i64 x, .int .i64 y, .pointer (some ⟨cb, 0, none⟩)] Wx fun e w' => e = .returned (.int .i64 (zf x y)) ∧ (Rw rs w' g n D ∧ Only (fun k => k = g) w w') from fun Wx hw =>
            (HC.out Wx hw.2 x y HXN.out.1 HXN.out.2).mono fun e w' ⟨he, hq⟩ => ⟨he, hw.1.kept (hq.below _), hw.2.trans (Only.of_below (hq.below _)) (fun k hk => .inl hk)⟩)
          have HDJ := Lib.hid (show D = rot d j i (i + 1) ∧ x = d i ∧ y = d j1 ∧ j1 = j - 1 ∧ a < j from ⟨hD, hx, hy, hj1', hja⟩)
          have HCL := Lib.hid (show Rw rs wr g n D ∧ Only (fun k => k = g) w wr from ⟨HMj.out, HOj.out⟩)
          have hj1n : j1 < n := by omega
          clear hD hx hy hj1' hja hj1 hj2
          go_wp2
          refine wp_region_inv 17 (fun V => Rw rs V g n D ∧ Only (fun k => k = g) w V) (by kernel_rfl) (by kernel_rfl) (fun m => ⟨HCL.out.1.kept (below_drawn (Below.refl _ _) m), HCL.out.2.trans (Only.of_below (below_drawn (Below.refl _ _) m)) (fun k hk => .inl hk)⟩) ?_
          simp only [List.take_succ_cons, List.take_zero]
          iterate 17
            apply wpInv_cons
            · rfl
            · intro Wx hw
              have q1 := hw.1.cell j hjn
              have q2 := hw.1.cell j1 hj1n
              rw [e1] at q1
              rw [e2] at q2
              go_simp
              first
                | exact ⟨hw, rfl⟩
                | (show Calls _ _ _ _ _; with_reducible exact HCC.out _ hw)
            simp only [Act.put, List.setIfInBounds_toArray, List.set_cons_zero, List.set_cons_succ]
          refine wpInv_nil fun V3 hV => ?_
          have HV := Lib.hid hV
          clear hV HCL HMj HOj
          simp only [List.drop_succ_cons, List.drop_zero]
          obtain ⟨tb, htb⟩ : ∃ tb, decide (zf x y < 0) = tb := ⟨_, rfl⟩
          have HTB := Lib.hid (show zL zf x y = tb from htb)
          rw [htb]
          clear htb
          cases tb
          case false =>
            have HR2 := Lib.hid (show Srt T D a i1 ∧ Out d D a i1 ∧ Prm d D a i1 by
              have hd := HDJ.out
              have h := one_right htr HS.out HTI.out HJ.out.1 HJ.out.2 (.inr (by rw [← hd.2.1, ← hd.2.2.2.1, ← hd.2.2.1]; exact HTB.out)) HLj.out
              rw [← hd.1, ← HI1.out] at h
              exact h)
            go_wp2
            go_roundw
            case rel => exact ⟨i1, D, by have := HI1.out; have := HI.out; omega, .inl (by have := HI1.out; have := HI.out; omega), by go_num, HV.out.1, HR2.out.1, (HO1.out.mono (Nat.le_refl _) (by have := HI1.out; omega)).trans HR2.out.2.1, (HP1.out.mono HO1.out (Nat.le_refl _) (by have := HI1.out; omega) (by have := HI.out; omega)).trans HR2.out.2.2, HV.out.2⟩
            case measure => have := HI1.out; have := HI.out; simp [intOf]; omega
          case true =>
            have HX := Lib.hid (show j < n ∧ j1 < n from ⟨hjn, hj1n⟩)
            clear e1 e2
            go_wp2
            refine wp_region_mark 17 (SwF rs w g n j j1 D) isStore lateO (by kernel_rfl) (by kernel_rfl) (by kernel_rfl) (by kernel_rfl) (fun m => ⟨HV.out.1.kept (below_drawn (Below.refl _ _) m), HV.out.2.trans (Only.of_below (S := fun k => k = g) (below_drawn (Below.refl _ _) m)) (fun k hk => .inl hk)⟩) ?_
            simp only [List.take_succ_cons, List.take_zero]
            iterate 15
              apply wpMark_cons
              · rfl
              · intro b Wx hl hw
                cases b
                · have q1 := hw.1.cell j HX.out.1
                  have q2 := hw.1.cell j1 HX.out.2
                  simp only [Bool.false_eq_true, if_false] at q1 q2
                  go_simp
                  exact ⟨hw, rfl⟩
                · first
                    | exact absurd (hl rfl) (by decide)
                    | (go_simp; exact ⟨hw, rfl⟩)
              simp only [Act.put, List.setIfInBounds_toArray, List.set_cons_zero, List.set_cons_succ]
            refine wpMark_cons undef rfl (fun b Wx hl hw => ?_) ?_
            · cases b
              · have hr : Wx.heap[g]? = some (.cells (rowN rs D n).toArray 3) := hw.1
                show InvRun Try.prog (SwF rs w g n j j1 D true) _ _
                refine inv_store_lit 3 g j (rowN rs (upd D j (D j1)) n).toArray (.int .i64 (D j1 : Int)) hr szI (by show j + 1 ≤ (rowN rs D n).toArray.size; simp [rowN_len]; have := HX.out.1; omega) rfl (rowN_upd D n j (D j1) HX.out.1) ?_ ?_ (fun W hp => ⟨hp.at', hw.2.trans hp.only (fun k hk => .inl hk)⟩)
                · rfl
                · rfl
              · exact absurd (hl rfl) (by decide)
            simp only [Act.put, List.setIfInBounds_toArray, List.set_cons_zero, List.set_cons_succ]
            apply wpMark_cons
            · rfl
            · intro b Wx hl hw
              cases b
              · go_simp
                exact ⟨hw, rfl⟩
              · go_simp
                exact ⟨hw, rfl⟩
            simp only [Act.put, List.setIfInBounds_toArray, List.set_cons_zero, List.set_cons_succ]
            refine wpMark_nil (fun V4 hV => ?_)
            have hr : V4.heap[g]? = some (.cells (rowN rs (upd D j (D j1)) n).toArray 3) := hV.1
            simp only [List.drop_succ_cons, List.drop_zero]
            refine wpList_store_lit 3 g j1 (rowN rs (upd (upd D j (D j1)) j1 (D j)) n).toArray (.int .i64 (D j : Int)) hr szI (by show j1 + 1 ≤ (rowN rs (upd D j (D j1)) n).toArray.size; simp [rowN_len]; have := HX.out.2; omega) rfl (rowN_upd (upd D j (D j1)) n j1 (D j) HX.out.2) ?_ ?_ ?_
            · rfl
            · rfl
            intro V5 hp2
            have HE := Lib.hid (show Rw rs V5 g n (swp D j j1) by have h := hp2.at'; rw [upd_swp] at h; exact h)
            have HO2 := Lib.hid (show Only (fun k => k = g) w V5 from hV.2.trans hp2.only (fun k hk => .inl hk))
            clear hV hr hp2
            have HSW := Lib.hid (show swp D j j1 = rot d j1 i (i + 1) by
              have hd := HDJ.out
              rw [hd.1, hd.2.2.2.1]
              exact swp_right d i j (by omega) HJ.out.2)
            rw [HSW.out] at HE
            go_wp2
            go_roundw
            case rel => exact ⟨j1, by have := HDJ.out.2.2.2; omega, by have := HDJ.out.2.2.2; have := HJ.out; omega, by go_num, HE.out, .inr (by rw [← HDJ.out.2.1, ← HDJ.out.2.2.1]; exact HTB.out), HO2.out⟩
            case measure => have := HDJ.out.2.2.2; simp [intOf]; omega
        · have t1 : decide ((a : Int) < (j : Int)) = false := decide_eq_false (by omega)
          have t1n : decide (a < j) = false := decide_eq_false hja
          have HR2 := Lib.hid (show Rw rs wr g n (rot d j i (i + 1)) ∧ Srt T (rot d j i (i + 1)) a i1 ∧ Out d (rot d j i (i + 1)) a i1 ∧ Prm d (rot d j i (i + 1)) a i1 by
            have h := one_right htr HS.out HTI.out HJ.out.1 HJ.out.2 (.inl (by omega)) HLj.out
            rw [← HI1.out] at h
            rw [← HI1.out]
            exact ⟨by rw [HI1.out]; exact HMj.out, h⟩)
          generalize rot d j i (i + 1) = D at *
          have HCL := Lib.hid (show Rw rs wr g n D ∧ Only (fun k => k = g) w wr from ⟨HR2.out.1, HOj.out⟩)
          clear hja hj1 hj2
          go_wp2
          refine wp_region_inv 17 (fun V => Rw rs V g n D ∧ Only (fun k => k = g) w V) (by kernel_rfl) (by kernel_rfl) (fun m => ⟨HCL.out.1.kept (below_drawn (Below.refl _ _) m), HCL.out.2.trans (Only.of_below (below_drawn (Below.refl _ _) m)) (fun k hk => .inl hk)⟩) ?_
          simp only [List.take_succ_cons, List.take_zero]
          iterate 17
            first
              | (apply wpInv_cons
                 · rfl
                 · intro Wx hw
                   go_simp
                   exact ⟨hw, rfl⟩)
              | (apply wpInv_skip
                 · rfl)
            simp only [Act.put, List.setIfInBounds_toArray, List.set_cons_zero, List.set_cons_succ]
          refine wpInv_nil fun V3 hV => ?_
          have HV := Lib.hid hV
          clear hV HCL
          simp only [List.drop_succ_cons, List.drop_zero]
          go_wp2
          go_roundw
          case rel => exact ⟨i1, D, by have := HI1.out; have := HI.out; omega, .inl (by have := HI1.out; have := HI.out; omega), by go_num, HV.out.1, HR2.out.2.1, (HO1.out.mono (Nat.le_refl _) (by have := HI1.out; omega)).trans HR2.out.2.2.1, (HP1.out.mono HO1.out (Nat.le_refl _) (by have := HI1.out; omega) (by have := HI.out; omega)).trans HR2.out.2.2.2, HV.out.2⟩
          case measure => have := HI1.out; have := HI.out; simp [intOf]; omega
    · have t0 : decide ((i : Int) < (b : Int)) = false := decide_eq_false (by omega)
      have t0n : decide (i < b) = false := decide_eq_false hlt
      have HAI := Lib.hid (show b ≤ i ∧ (i = b ∨ i = a + 1) by omega)
      clear hlt hi hib
      go_wp2
      refine bodyPost_end (results_none Try.results54 _ _ _) rfl ⟨rfl, HO.out, d, HM.out, ?_⟩
      rcases HAI.out.2 with e | e
      · rw [e] at HS HO1 HP1
        exact ⟨HS.out, HO1.out, HP1.out⟩
      · have hab := HAB.out
        have hbi := HAI.out.1
        have hout : Out c d a b := fun k hk => by
          by_cases h : k < a ∨ i ≤ k
          · exact HO1.out k h
          · have hk2 : k = a := by omega
            obtain ⟨l, l1, l2, l3⟩ := HP1.out.mem (i := k) (by omega) (by omega)
            rw [l3]; congr 1; omega
        refine ⟨fun x y hx hxy hy => by omega, hout, ?_⟩
        unfold Prm
        rw [piece_congr (c := d) (d := c) (a := a) (b := b) fun k h1 h2 => by
          have hk2 : k = a := by omega
          obtain ⟨l, l1, l2, l3⟩ := HP1.out.mem (i := k) (by omega) (by omega)
          rw [l3]; congr 1; omega]
end Go.Proofs.Ythadfopkacbnlaa

