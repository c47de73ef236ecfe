/-
  Layer 19: apart: lists of a call's own, written full, grown and looked at.
-/
import Derived.Test.YtbggibdldadpiaaYa
import Derived.Deep.AppendLies
import Derived.Deep.LoopGhost
namespace Go.Proofs.Ytbggibdldadpiaa
open Go.RowKit Go.K
set_option linter.unusedVariables false
set_option linter.unusedSimpArgs false
theorem apI : (Try.prog.info? 3).map (fun i => (i.zero, i.size, i.bytes)) = some (some (.int .i64 0), 1, 8) := by kernel_rfl
theorem apS : (Try.prog.info? 24).map (fun i => (i.zero, i.size, i.bytes)) = some (some (.slice none 0 0), 1, 24) := by kernel_rfl
theorem apZ : (Try.prog.info? 3).map (·.size) = some 1 := by kernel_rfl
theorem ap_cell {W : World} {B t n g c : Nat} {xs : List Value} (h : W.ownsRow B t 1 (.slice (some ⟨g, 0, none⟩) n c) n xs) (k : Nat) {u : Value} (hu : xs[k]? = some u) : W.cell? ⟨g, k, none⟩ = some u := by
  have := h.cells (g := g) rfl k u hu
  rw [add_spot, Nat.zero_add] at this
  exact this
set_option maxRecDepth 100000 in
set_option maxHeartbeats 4000000 in
theorem apart_any (B : Nat) (ls : List R3) (a : Option Addr) (cap : Nat) (w : World) (hll : ls.length ≤ 100000000000) (hnn : ∀ r ∈ ls, r.2.1 ≤ 17592186043904) (hcc : Sl w a (ls.map r3)) (hf : Fam B w ls) (hoff : ∀ y, a = some y → ¬ ownS ls y.block) (hB : B ≤ w.heap.size) :
    Calls Try.prog 26 #[.slice a ls.length cap] w fun e w' => e = .returned (.bool true) ∧ Only (ownS ls) w w' := by
  have HLN := Lib.hid hll
  have HNN := Lib.hid hnn
  have HCC := Lib.hid hcc
  have HFAM := Lib.hid hf
  have HOFF := Lib.hid hoff
  have HBW := Lib.hid hB
  clear hll hnn hcc hf hoff hB
  go_enter Try.func26, Try.ntmps26
  go_wp2
  -- the marks
  go_loopw [3, 4] (fun i ii wr => ∃ j : Nat, j ≤ ls.length ∧ i = .int .i64 j ∧ Only (ownS ls) w wr ∧
      ∀ i' (h : i' < ls.length), RowM B wr ls[i'] i' (if i' < j then ls[i'].2.1 else 0)) (fun i _ _ => ls.length - (intOf i).toNat)
  case atStart => exact ⟨0, by omega, rfl, Only.refl _ _, fun i' h => by rw [if_neg (by omega)]; obtain ⟨xs, hx⟩ := HFAM.out.own i' h; exact RowM.start hx⟩
  case round =>
    obtain ⟨j, hj, rfl, ho, hr⟩ := hrel
    have HO := Lib.hid ho
    have HR := Lib.hid hr
    have hlN := HLN.out
    clear ho hr
    by_cases hlt : j < ls.length
    case pos =>
      have t0 : decide ((j : Int) < (ls.length : Int)) = true := by simp; omega
      have t0n : decide (j < ls.length) = true := by simp; omega
      have i1 : (j : Int) < (ls.length : Int) := by omega
      obtain ⟨ba, bo, hab, _⟩ := cont_at HCC.out j hlt
      subst hab
      have HCJ := Lib.hid (fun V (h : Only (ownS ls) w V) => cont_at (h.sl HCC.out (fun y hy _ => HOFF.out y hy)) j hlt)
      have HN := Lib.hid (HNN.out ls[j] (List.getElem_mem hlt))
      have HRJ := Lib.hid (show RowM B wr ls[j] j 0 by have h := HR.out j hlt; rwa [if_neg (Nat.lt_irrefl j)] at h)
      have HRO := Lib.hid (fun i' (h : i' < ls.length) (hne : i' ≠ j) => HR.out i' h)
      have HAJ := Lib.hid (fun i' (h : i' < ls.length) (hne : i' ≠ j) => HFAM.out.dis j i' hlt h (fun e => hne e.symm))
      have HEJ := Lib.hid (show ∀ i' (h : i' < ls.length), i' = j → ls[i'] = ls[j] from fun i' h e => by subst e; rfl)
      have HSJ := Lib.hid (show ∀ b, (r3 ls[j]).ownBlock = some b → ownS ls b from fun b hb => ⟨_, List.getElem_mem hlt, hb⟩)
      generalize ls[j] = rj at HCJ HN HRJ HAJ HEJ HSJ
      obtain ⟨aj, n, c⟩ := rj
      have hn : n ≤ 17592186043904 := HN.out
      have HCJ := Lib.hid (fun V (h : Only (ownS ls) w V) => (show V.cell? ⟨ba, bo + j, none⟩ = some (.slice aj n c) by obtain ⟨b', o', e', h'⟩ := HCJ.out V h; cases e'; exact h'))
      have z1 := HCJ.out _ HO.out
      clear HR
      go_wp2
      go_loopw [4] (fun i wq => ∃ k : Nat, k ≤ n ∧ i = .int .i64 k ∧ Only (ownS ls) w wq ∧ RowM B wq (aj, n, c) j k ∧
          ∀ i' (h : i' < ls.length), i' ≠ j → RowM B wq ls[i'] i' (if i' < j then ls[i'].2.1 else 0)) (fun i _ => n - (intOf i).toNat)
      case atStart => exact ⟨0, by omega, rfl, HO.out, HRJ.out, fun i' h hne => HRO.out i' h hne⟩
      case round =>
        clear HO HRJ HRO z1
        obtain ⟨k, hk, rfl, ho, hrj, hro⟩ := hrel
        have HO := Lib.hid ho
        have HRJ := Lib.hid hrj
        have HRO := Lib.hid hro
        clear ho hrj hro
        have z1 := HCJ.out _ HO.out
        by_cases hlk : k < n
        case pos =>
          have t1 : decide ((k : Int) < (n : Int)) = true := by simp; omega
          have t1n : decide (k < n) = true := by simp; omega
          have i2 : (k : Int) < (n : Int) := by omega
          obtain ⟨g, cur, hga, hrow, hsz, hmk⟩ := HRJ.out.mark hlk
          have hga : aj = some ⟨g, 0, none⟩ := hga
          subst hga
          have HRW := Lib.hid hrow
          have HMK := Lib.hid hmk
          have hSg := HSJ.out g rfl
          clear hrow hmk HRJ
          have hw1 : IntKind.i64.wrap (-500000 - (j : Int)) = -500000 - (j : Int) := by rw [IntKind.wrap_i64]; omega
          go_wp2_with ((with_reducible refine at_store_op ?_); refine wpList_store_lit 3 g k (cur.toList.take k ++ [V5 j] ++ cur.toList.drop (k + 1)).toArray (.int .i64 (-500000 - (j : Int))) HRW.out apZ (by show k + 1 ≤ cur.size; omega) rfl rfl ?_ ?_ ?_; exact rfl; exact rfl; intro w3 hp3)
          go_roundw
          case rel =>
            exact ⟨k + 1, by omega, by go_num, HO.out.trans hp3.only (fun n hn => .inl (hn ▸ hSg)), HMK.out _ hp3, fun i' h hne => (HRO.out i' h hne).only hp3.only (fun b hb hb2 => HAJ.out i' h hne g rfl (hb2 ▸ hb))⟩
          case measure => simp [intOf]; omega
        case neg =>
          have t1 : decide ((k : Int) < (n : Int)) = false := by simp; omega
          have t1n : decide (k < n) = false := by simp; omega
          go_wp2
          go_roundw
          case rel =>
            refine ⟨j + 1, by omega, by go_num, HO.out, fun i' h => ?_⟩
            by_cases e : i' = j
            · rw [HEJ.out i' h e, e, if_pos (by omega)]
              have : k = n := by omega
              exact this ▸ HRJ.out
            · by_cases e2 : i' < j
              · rw [if_pos (by omega)]; simpa [e2] using HRO.out i' h e
              · rw [if_neg (by omega)]; simpa [e2] using HRO.out i' h e
          case measure => simp [intOf]; omega
    case neg =>
      have t0 : decide ((j : Int) < (ls.length : Int)) = false := by simp; omega
      have t0n : decide (j < ls.length) = false := by simp; omega
      obtain ⟨wA, hwA⟩ : ∃ W, W = wr := ⟨_, rfl⟩
      subst hwA
      have HOA := HO
      have HWA := Lib.hid (show ∀ i' (h : i' < ls.length), wA.ownsRow B 3 1 (r3 ls[i']) ls[i'].2.1 (c5 i' ls[i'].2.1) from fun i' h => (show RowM B wA ls[i'] i' ls[i'].2.1 by have := HR.out i' h; rwa [if_pos (by omega)] at this).full)
      have HFB := Lib.hid (show Fam B wA ls from ⟨fun i' h => ⟨_, HWA.out i' h⟩, HFAM.out.dis⟩)
      have HBA := Lib.hid (show B ≤ wA.heap.size from by have h1 := HOA.out.size; have h2 := HBW.out; omega)
      clear HO HR HFAM hj hlt
      go_wp2
      -- the going on
      go_loopw [5, 6, 7, 8] (fun v' i x20 x21 wr => ∃ (j : Nat) (v : Value) (us : List Value), v = v' ∧ j ≤ ls.length ∧ i = .int .i64 j ∧ Out B ls wA j wr v us) (fun _ i _ _ _ => ls.length - (intOf i).toNat)
      case atStart => exact ⟨0, _, [], rfl, by omega, rfl, Out.start HWA.out⟩
      case round =>
        obtain ⟨j, v, us, hv, hj, rfl, hou⟩ := hrel
        subst hv
        have HOU := Lib.hid hou
        clear hou
        by_cases hlt : j < ls.length
        case pos =>
          have t0 : decide ((j : Int) < (ls.length : Int)) = true := by simp; omega
          have t0n : decide (j < ls.length) = true := by simp; omega
          have i1 : (j : Int) < (ls.length : Int) := by omega
          obtain ⟨ba, bo, hab, z1⟩ := cont_at (HOU.out.only.sl (HOA.out.sl HCC.out (fun y hy _ => HOFF.out y hy)) (fun y hy _ => HOFF.out y hy)) j hlt
          subst hab
          have HIN := Lib.hid (HOU.out.enter hlt HFB.out)
          have hnj : ls[j].2.1 ≤ 17592186043904 := HNN.out ls[j] (List.getElem_mem hlt)
          clear HOU
          obtain ⟨nj, hnj2⟩ : ∃ nj, nj = ls[j].2.1 := ⟨_, rfl⟩
          have HNJ := Lib.hid hnj2
          rw [← hnj2] at z1 hnj
          obtain ⟨aj, haj⟩ : ∃ x, x = ls[j].1 := ⟨_, rfl⟩
          obtain ⟨cj, hcj⟩ : ∃ x, x = ls[j].2.2 := ⟨_, rfl⟩
          rw [← haj, ← hcj] at z1
          have HV0 := Lib.hid (show r3 ls[j] = .slice aj nj cj by unfold r3; rw [haj, hcj, hnj2])
          rw [HV0.out] at HIN
          have HLT := Lib.hid hlt
          clear haj hcj hnj2
          go_wp2
          go_loopw [5, 7, 8] (fun v' vl' i wq => ∃ (k : Nat) (v vl : Value) (us : List Value), v = v' ∧ vl = vl' ∧ k ≤ 40 ∧ i = .int .i64 k ∧ Inv B ls wA j hlt k k wq v us vl) (fun _ _ i _ => 40 - (intOf i).toNat)
          case atStart => exact ⟨0, _, _, us, rfl, rfl, by omega, rfl, HIN.out⟩
          case round =>
            clear HIN z1
            obtain ⟨k, v7, vl, us7, hv7, hvl, hk, rfl, hin⟩ := hrel
            subst hv7 hvl
            have HIN := Lib.hid hin
            clear hin
            by_cases hlk : k < 40
            case pos =>
              have t1 : decide ((k : Int) < 40) = true := by simp; omega
              have hw1 : IntKind.i64.wrap (-600000 - (j : Int)) = -600000 - (j : Int) := by rw [IntKind.wrap_i64]; omega
              have h63 : nj + k + 1 ≤ maxLen := by unfold maxLen; omega
              have hby : (nj + k + 1) * 8 ≤ 140737488355328 := by omega
              have hbs : B ≤ (wr.alloc (.cells #[.int .i64 (-600000 - (j : Int))] 3)).heap.size := by have h1 := HIN.out.only.size; have h3 := HBA.out; simp; omega
              have hown : wr.ownsRow B 3 1 vl (nj + k) (c6 j nj k) := by rw [HNJ.out]; exact HIN.out.last
              have HOWN := Lib.hid (hown.alloc (.cells #[.int .i64 (-600000 - (j : Int))] 3))
              clear hown
              go_wp2_with (at_builtin; refine wpList_append_two rfl _ _ 24 rfl B 3 (.int .i64 0) 1 8 Try.underlying24 apI rfl (by decide) vl (nj + k) (c6 j nj k) (by rfl) HOWN.out ⟨wr.heap.size, 0, none⟩ 1 1 [.int .i64 (-600000 - (j : Int))] (by rfl) (by decide) (by rfl) (sl_new _ _ _ _) (one_int _ _) h63 hby hbs ?hi1)
              intro v2 w5 ho2 hg2 hl2
              have HIN2 := Lib.hid (Inv.appL HFB.out HIN.out hlk (by rw [← HNJ.out]; exact ho2) hg2 (by simpa only [World.size_alloc, ne_eq] using hl2))
              clear ho2 hg2 hl2 HIN HOWN
              obtain ⟨g7, c7, cur7, hv7, -⟩ := owns_cases HIN2.out.last (by omega)
              rw [← HNJ.out] at hv7
              have hv7 : v2 = .slice (some ⟨g7, 0, none⟩) (nj + (k + 1)) c7 := hv7
              subst hv7
              have h1c : ∀ u ∈ ([.slice (some ⟨g7, 0, none⟩) (nj + (k + 1)) c7] : List Value), u.oneCell' = true := by intro u hu; rw [List.mem_singleton] at hu; subst hu; rfl
              have h63 : 40 * j + k + 1 ≤ maxLen := by unfold maxLen; omega
              have hby : (40 * j + k + 1) * 24 ≤ 140737488355328 := by omega
              have hbs : wA.heap.size ≤ (w5.alloc (.cells #[.slice (some ⟨g7, 0, none⟩) (nj + (k + 1)) c7] 24)).heap.size := by have h1 := HIN2.out.only.size; simp; omega
              have HOV := Lib.hid (HIN2.out.own.alloc (.cells #[.slice (some ⟨g7, 0, none⟩) (nj + (k + 1)) c7] 24))
              go_wp2_with (at_builtin; refine wpList_append_sl_at rfl _ _ 54 rfl wA.heap.size 24 (.slice none 0 0) 1 24 Try.underlying54 apS rfl (by decide) v7 (40 * j + k) us7 (by rfl) HOV.out (some ⟨w5.heap.size, 0, none⟩) 1 1 [.slice (some ⟨g7, 0, none⟩) (nj + (k + 1)) c7] (by rfl) (fun h => by cases h) (by rfl) (sl_new _ _ _ _) h1c h63 hby hbs ?ho1)
              intro v3 w9 ho3 hg3 hl3
              have HIN3 := Lib.hid (show Inv B ls wA j hlt (k + 1) (k + 1) w9 v3 (us7 ++ [.slice (some ⟨g7, 0, none⟩) (nj + (k + 1)) c7]) (.slice (some ⟨g7, 0, none⟩) (nj + (k + 1)) c7) by
                have h1 := HIN2.out
                rw [HNJ.out] at h1 ho3 hg3 ⊢
                exact h1.appG ho3 hg3)
              clear ho3 hg3 hl3 HIN2 HOV
              go_wp2
              go_roundw
              case rel => exact ⟨k + 1, _, _, _, rfl, rfl, by omega, by go_num, HIN3.out⟩
              case measure => simp [intOf]; omega
            case neg =>
              have t1 : decide ((k : Int) < 40) = false := by simp; omega
              have HOU := Lib.hid (show Out B ls wA (j + 1) wr v7 us7 by have h := HIN.out; obtain rfl : k = 40 := (by omega); exact h.leave)
              clear HIN
              go_wp2
              go_roundw
              case rel => exact ⟨j + 1, _, _, rfl, by omega, by go_num, HOU.out⟩
              case measure => simp [intOf]; omega
        case neg =>
          have t0 : decide ((j : Int) < (ls.length : Int)) = false := by simp; omega
          have t0n : decide (j < ls.length) = false := by simp; omega
          obtain ⟨wB, hwB⟩ : ∃ W, W = wr := ⟨_, rfl⟩
          subst hwB
          have HOB := Lib.hid (show Out B ls wA ls.length wB v us by have h := HOU.out; obtain rfl : j = ls.length := (by omega); exact h)
          have HCB := Lib.hid (HOB.out.only.sl (HOA.out.sl HCC.out (fun y hy _ => HOFF.out y hy)) (fun y hy _ => HOFF.out y hy))
          obtain ⟨av, cv, hvv, _, _, _⟩ := Go.K.owns_slice HOB.out.own
          subst hvv
          have HOO := Lib.hid HOB.out.own
          clear HOU hj hlt
          have m40 : IntKind.i64.wrap ((40 * ls.length : Nat) : Int) = ((40 * ls.length : Nat) : Int) := by rw [IntKind.wrap_i64]; omega
          obtain ⟨M, hM⟩ : ∃ M, M = 40 * ls.length := ⟨_, rfl⟩
          have HM := Lib.hid hM
          rw [← hM] at HOB HOO ⊢
          clear hM m40
          go_wp2
          -- the looking
          go_loopw [9, 10, 11] (fun i x23 x24 wr => ∃ t : Nat, t ≤ M ∧ i = .int .i64 t ∧ wB = wr) (fun i _ _ _ => M - (intOf i).toNat)
          case atStart => exact ⟨0, by omega, rfl, rfl⟩
          case round =>
            obtain ⟨t, ht, rfl, rfl⟩ := hrel
            have hMb : M ≤ 4000000000000 := by have := HM.out; have := HLN.out; omega
            by_cases hlt : t < M
            case pos =>
              have t0 : decide ((t : Int) < (M : Int)) = true := by simp; omega
              have t0n : decide (t < M) = true := by simp; omega
              have i1 : (t : Int) < (M : Int) := by omega
              obtain ⟨gv, cv2, curv, hvv2, -⟩ := owns_cases HOO.out (by omega)
              injection hvv2 with e1 e2 e3
              subst e1 e3
              obtain ⟨j, hj⟩ : ∃ j, j = t / 40 := ⟨_, rfl⟩
              have hq1 : (t : Int).tdiv 40 = (j : Int) := by rw [hj]; exact (Int.ofNat_tdiv t 40).symm
              have hlj : j < ls.length := by have := HM.out; omega
              have hlN := HLN.out
              have hq2 : IntKind.i64.wrap (j : Int) = (j : Int) := by rw [IntKind.wrap_i64]; omega
              have i2 : (j : Int) < (ls.length : Int) := by omega
              obtain ⟨q, hq⟩ : ∃ q, q = t % 40 := ⟨_, rfl⟩
              have hq40 : q < 40 := by omega
              have htl : t < us.length := by rw [HOB.out.len]; have := HM.out; omega
              obtain ⟨a8, c8, hu8, hv8, -⟩ := HOB.out.vers t us[t] (List.getElem?_eq_getElem htl) j hlj hj
              rw [← hq] at hu8 hv8
              obtain ⟨ba, bo, hab, z1⟩ := cont_at HCB.out j hlj
              subst hab
              have z2 : wB.cell? ⟨gv, t, none⟩ = some (.slice a8 (ls[j].2.1 + (q + 1)) c8) := by rw [← hu8]; exact ap_cell HOO.out t (List.getElem?_eq_getElem htl)
              have HV8 := Lib.hid hv8
              have HL8 := Lib.hid (HOB.out.lists j hlj)
              have hn : ls[j].2.1 ≤ 17592186043904 := HNN.out ls[j] (List.getElem_mem hlj)
              generalize ls[j] = rj at z1 z2 HV8 HL8 hn
              obtain ⟨aj, n, cj⟩ := rj
              simp only at z1 z2 HV8 HL8 hn
              have HJQ := Lib.hid (And.intro hj hq)
              clear hu8 hv8 htl hj hq
              go_wp2
              go_loopw [11] (fun i wq => ∃ k : Nat, k ≤ n + (q + 1) ∧ i = .int .i64 k ∧ wB = wq) (fun i _ => n + (q + 1) - (intOf i).toNat)
              case atStart => exact ⟨0, by omega, rfl, rfl⟩
              case round =>
                obtain ⟨k, hk, rfl, rfl⟩ := hrel
                by_cases hlk : k < n
                · have t1 : decide ((k : Int) < ((n + (q + 1) : Nat) : Int)) = true := by simp; omega
                  have t1' : decide ((k : Int) < ((n : Int) + ((q : Int) + 1))) = true := by simp; omega
                  have t2 : decide ((k : Int) < (n : Int)) = true := by simp; omega
                  have t3 : decide ((k : Int) ≥ (n : Int)) = false := by simp; omega
                  have i3 : (k : Int) < (n : Int) := by omega
                  have i4 : (k : Int) < ((n + (q + 1) : Nat) : Int) := by omega
                  have i4' : (k : Int) < ((n : Int) + ((q : Int) + 1)) := by omega
                  have i5 : ¬ (k : Int) ≥ (n : Int) := by omega
                  obtain ⟨g8, o8, he8, hc8⟩ := HV8.out.sl (by intro e; have := congrArg List.length e; rw [c6_len] at this; simp at this)
                  obtain ⟨gj, oj, hej, hcj⟩ := HL8.out.sl (by intro e; have := congrArg List.length e; rw [c5_len] at this; simp at this; omega)
                  subst he8 hej
                  have x1 := hc8 k (by rw [c6_len]; omega)
                  rw [c6_low _ _ _ _ hlk] at x1
                  have x2 := hcj k (by rw [c5_len]; omega)
                  rw [← c6_zero, c6_low _ _ _ _ hlk] at x2
                  unfold V5 at x1 x2
                  have hw1 : IntKind.i64.wrap (-500000 - (j : Int)) = -500000 - (j : Int) := by rw [IntKind.wrap_i64]; omega
                  have f0 : ((-500000 - (j : Int)) != (-500000 - (j : Int))) = false := by simp
                  clear hc8 hcj
                  go_wp2
                  go_roundw
                  case rel => exact ⟨k + 1, by omega, by go_num, by trivial⟩
                  case measure => simp [intOf]; omega
                · by_cases hl4 : k < n + (q + 1)
                  · obtain ⟨p, rfl⟩ : ∃ p, k = n + p := ⟨k - n, by omega⟩
                    have hp : p < q + 1 := by omega
                    have t1 : decide (((n + p : Nat) : Int) < ((n + (q + 1) : Nat) : Int)) = true := by simp; omega
                    have t1' : decide (((n + p : Nat) : Int) < ((n : Int) + ((q : Int) + 1))) = true := by simp; omega
                    have t2 : decide (((n + p : Nat) : Int) < (n : Int)) = false := by simp; omega
                    have t3 : decide (((n + p : Nat) : Int) ≥ (n : Int)) = true := by simp; omega
                    have i3 : ¬ ((n + p : Nat) : Int) < (n : Int) := by omega
                    have i4 : ((n + p : Nat) : Int) < ((n + (q + 1) : Nat) : Int) := by omega
                    have i4' : ((n + p : Nat) : Int) < ((n : Int) + ((q : Int) + 1)) := by omega
                    have i5 : ((n + p : Nat) : Int) ≥ (n : Int) := by omega
                    obtain ⟨g8, o8, he8, hc8⟩ := HV8.out.sl (by intro e; have := congrArg List.length e; rw [c6_len] at this; simp at this)
                    subst he8
                    have x1 := hc8 (n + p) (by rw [c6_len]; omega)
                    rw [c6_high _ _ _ _ hp] at x1
                    unfold V6 at x1
                    have hw1 : IntKind.i64.wrap (-600000 - (j : Int)) = -600000 - (j : Int) := by rw [IntKind.wrap_i64]; omega
                    have f0 : ((-600000 - (j : Int)) != (-600000 - (j : Int))) = false := by simp
                    clear hc8
                    go_wp2
                    go_roundw
                    case rel => first | exact ⟨n + p + 1, by omega, by go_num, by trivial⟩ | exact ⟨n + p + 1, by omega, by go_num⟩
                    case measure => simp [intOf]; omega
                  · have t1 : decide ((k : Int) < ((n + (q + 1) : Nat) : Int)) = false := by simp; omega
                    have t1' : decide ((k : Int) < ((n : Int) + ((q : Int) + 1))) = false := by simp; omega
                    go_wp2
                    go_roundw
                    case rel => exact ⟨t + 1, by omega, by go_num, by trivial⟩
                    case measure => simp [intOf]; omega
            case neg =>
              have t0 : decide ((t : Int) < (M : Int)) = false := by simp; omega
              have t0n : decide (t < M) = false := by simp; omega
              have HON := Lib.hid (show Only (ownS ls) w wB from HOA.out.trans HOB.out.only (fun b hb => .inl hb))
              go_wp2
              go_ret
              exact ⟨rfl, HON.out⟩
end Go.Proofs.Ytbggibdldadpiaa
