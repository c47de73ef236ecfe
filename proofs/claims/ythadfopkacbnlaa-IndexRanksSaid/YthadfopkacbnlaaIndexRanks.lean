/-
  The rank has each kind with a deal once, the dearer ones ahead; lists that are answered are memory of their own.
-/
import Derived.Test.YthadfopkacbnlaaWa
import Derived.Test.YthadfopkacbnlaaYa
import Derived.BigQuiet
import Derived.Deep.QuietTactic
namespace Go.Proofs.Ythadfopkacbnlaa.lawIndexRanks
open Go.RowKit Go.K Go.ChangeShapes Go.WideShapes Go.ChangeAt Stab
set_option linter.unusedVariables false
set_option linter.unusedSimpArgs false
attribute [local go_sem] run_store_float
set_option maxRecDepth 100000 in
set_option maxHeartbeats 8000000 in
theorem walk (a : Option Addr) (c : Nat) (l : List Dl) (w : World) (hd : DlsOk w a c l) :
    Calls Try.prog 3 #[.slice a l.length c] w fun e w' => e = .returned (.bool true) ∧ Below w.heap.size w w' := by
  have HD := Lib.hid hd
  clear hd
  go_enter Try.func3, Try.ntmps3
  go_wp2_with fail
  refine (known_any w).mono ?_
  rintro r0 w1 ⟨rfl, hb1⟩
  have HB1 := Lib.hid hb1
  clear hb1
  go_wp2_with fail
  refine (hear_any a c l w1 (by have := HD.out.mx; omega) HD.out.pr (HD.out.kept (HB1.out)).sl).mono ?_
  rintro r0 w2 ⟨rfl, hi2, hb2⟩
  obtain ⟨g, hg⟩ : ∃ g, g = w1.heap.size := ⟨_, rfl⟩
  obtain ⟨L, hL⟩ : ∃ L, L = hearL l := ⟨_, rfl⟩
  rw [← hg, ← hL] at hi2
  rw [← hg]
  have HAV := Lib.hid (show ∀ k, (L k).avg < 4294967296 from fun k => by
    rw [hL]
    have := (hearL_good l HD.out.pr k).avg
    omega)
  have HI2 := Lib.hid hi2
  have HB2 := Lib.hid (HB1.out.trans (hb2.mono HB1.out.size))
  clear hi2 hb2 hg hL
  go_wp2_with fail
  refine (rank_any g L w2 HAV.out HI2.out).mono ?_
  rintro r0 w3 ⟨⟨v4, rfl, R, hR, ho4⟩, hb3⟩
  have HR := Lib.hid hR
  have HR16 := Lib.hid hR.len
  have HO43 := Lib.hid ho4
  have HI3 := Lib.hid (HI2.out.kept hb3)
  have HB3 := Lib.hid hb3
  clear hR ho4 hb3
  go_wp2_with fail
  refine (rank_any g L w3 HAV.out HI3.out).mono ?_
  rintro r0 w4 ⟨⟨v5, rfl, R2, hR2, ho5⟩, hb4⟩
  obtain rfl := hR2.unique HR.out
  have HT4 := Lib.hid (show w4.ownsRow w2.heap.size 3 1 v4 R2.length (vN R2) ∧ w4.ownsRow w2.heap.size 3 1 v5 R2.length (vN R2) ∧ Dis v4 v5 from
    ⟨owns_below (B := 0) HO43.out hb4, owns_base ho5 HB3.out.size, fun b h1 h2 => by
      have e1 := HO43.out.lt b h1
      have e2 := ho5.lt b h2
      omega⟩)
  have HI4 := Lib.hid (HI3.out.kept hb4)
  have HB4 := Lib.hid (show Below w2.heap.size w2 w4 from HB3.out.trans (hb4.mono HB3.out.size))
  clear hR2 ho5 hb4 HO43
  obtain ⟨n, hn⟩ : ∃ n, n = R2.length := ⟨_, rfl⟩
  have HN := Lib.hid hn
  rw [← hn] at HT4
  have HN16 := Lib.hid (show n ≤ 16 from by rw [hn]; exact HR16.out)
  clear hn HR16
  obtain ⟨a4, c4, rfl, hs4, hz4, hg4⟩ := owns_sl2 HT4.out.1
  have HZ4 := Lib.hid hz4
  have HS44 := Lib.hid hs4
  clear hs4 hz4 hg4
  have h63 : 0 + n ≤ maxLen := by have := HN16.out; unfold maxLen; omega
  have hby : (0 + n) * 8 ≤ 140737488355328 := by have := HN16.out; omega
  have hown : (w4.alloc (.cells #[] 3)).ownsRow w4.heap.size 3 1 (.slice (some ⟨w4.heap.size, 0, none⟩) 0 0) 0 [] := World.ownsRow_made w4 #[] 0 (Nat.le_refl _) (by decide) rfl
  have HOW := Lib.hid hown
  have HS45 := Lib.hid (show Sl (w4.alloc (.cells #[] 3)) a4 (vN R2) from HS44.out.kept ((Below.refl _ _).alloc (Nat.le_refl _) _))
  have HVL := Lib.hid (show (vN R2).length = n * 1 from by rw [vN_len, Nat.mul_one]; exact HN.out.symm)
  have HVO := Lib.hid (show ∀ u ∈ vN R2, u.oneCell' = true from fun u hu => by
    obtain ⟨k, _, rfl⟩ := List.mem_map.1 hu
    rfl)
  clear hown
  go_wp2_with (at_builtin; refine wpList_append_sl rfl _ _ 26 rfl w4.heap.size 3 (.int .i64 0) 1 8 Try.underlying26 infoI rfl (by decide) _ 0 [] rfl HOW.out a4 n c4 (vN R2) rfl HZ4.out HVL.out HS45.out HVO.out h63 hby ?a1 ?a2)
  case a1 => simp
  case a2 =>
    intro v6 w5 ho6 hg6
    have hb5 : Below w4.heap.size w4 w5 := ((Below.refl _ _).alloc (Nat.le_refl _) _).grown hg6 (by simp) (fun k hk => by cases hk; exact Nat.le_refl _)
    have HT5 := Lib.hid (show Three w5 w2 w2.heap.size (.slice a4 n c4) n (vN R2) v5 n (vN R2) v6 n (vN R2) from
      ⟨owns_below (B := 0) HT4.out.1 hb5, owns_below (B := 0) HT4.out.2.1 hb5, owns_base ho6 HB4.out.size, HT4.out.2.2, (fun b h1 h2 => by
        have e1 := HT4.out.1.lt b h1
        have e2 := ho6.lt b h2
        omega), (fun b h1 h2 => by
        have e1 := HT4.out.2.1.lt b h1
        have e2 := ho6.lt b h2
        omega), HB4.out.trans (hb5.mono HB4.out.size)⟩)
    have HI5 := Lib.hid (HI4.out.kept hb5)
    clear ho6 hg6 hb5 h63 hby HOW HS45 HS44
    have hmk := make28
    go_upto_region 9 with fail
    obtain ⟨ms, hms⟩ : ∃ m, m = w5.heap.size := ⟨_, rfl⟩
    rw [← hms]
    refine wp_world (fun W => Cl W ms 4 16 (seenF R2 0) ∧ Below ms w5 W) ⟨seen_zero w5 ms hms R2, (Below.refl _ _).alloc (by rw [hms]; exact Nat.le_refl _) _⟩ ?_
    rintro w6 ⟨hc6, hb6⟩
    have HC6 := Lib.hid hc6
    have HB6 := Lib.hid hb6
    have HMS := Lib.hid hms
    have HSL5 := Lib.hid (show Sl w5 a4 (vN R2) from by
      obtain ⟨a', c', e, h, _⟩ := owns_sl2 HT5.out.r4
      cases e
      exact h)
    clear hc6 hb6 hms hmk
    go_wp2
    go_loopw [8] (fun s8 V => ∃ i : Nat, i ≤ n ∧ s8 = .int .i64 i ∧ Cl V ms 4 16 (seenF R2 i) ∧ Below ms w5 V) (fun i _ => n - (intOf i).toNat)
    case atStart => exact ⟨0, Nat.zero_le _, rfl, HC6.out, HB6.out⟩
    case round =>
      clear HC6 HB6
      obtain ⟨wa, hwa⟩ : ∃ W, W = wr := ⟨_, rfl⟩
      subst hwa
      obtain ⟨i, hi, rfl, hc, hb⟩ := hrel
      have HC := Lib.hid hc
      have HB := Lib.hid (show Below w5.heap.size w5 wa from by rw [← HMS.out]; exact hb)
      clear hc hb
      have HIA := Lib.hid (HI5.out.kept HB.out)
      have HSL := Lib.hid (HSL5.out.kept HB.out)
      by_cases hlt : i < n
      · have t1 : decide ((i : Int) < (n : Int)) = true := by simp; omega
        have ii : (i : Int) < (n : Int) := by omega
        have ti : IntKind.i64.wrap ((i : Int) + 1) = ((i + 1 : Nat) : Int) := by have := HN16.out; rw [IntKind.wrap_i64]; omega
        have hlr : i < R2.length := by rw [← HN.out]; exact hlt
        obtain ⟨b4, o4, rfl, hcl⟩ := HSL.out (vN_ne hlr)
        obtain ⟨rk, hrk⟩ : ∃ z, z = R2[i] := ⟨_, rfl⟩
        have HCL := Lib.hid (show ∀ V, Below w5.heap.size w5 V → ∀ j (h : j < R2.length), V.cell? ⟨b4, o4 + j, none⟩ = some (.int .i64 (R2[j] : Int)) from fun V hV j h => by
          obtain ⟨b', o', e, h'⟩ := (HSL5.out.kept hV) (vN_ne hlr)
          cases e
          rw [h' j (by rw [vN_len]; exact h), vN_get])
        have k0 := HCL.out wa HB.out i hlr
        rw [← hrk] at k0
        have hr16 : rk < 16 := by rw [hrk]; exact HR.out.lt hlr
        have u1 : decide ((rk : Int) < 0) = false := by simp
        have u2 : decide ((rk : Int) > 15) = false := by simp; omega
        have u3 : (rk : Int) < 16 := by omega
        have k1 := seen_cell HC.out hr16
        rw [decide_eq_false (by rw [hrk]; exact HR.out.new hlr)] at k1
        have f1 := HC.out.frozen rk
        have HST := Lib.hid (show Cl (wa.setCell ⟨ms, rk, none⟩ (.bool true)) ms 4 16 (seenF R2 (i + 1)) from by
          have := seen_step HC.out hlr (HR.out.lt hlr)
          rw [← hrk] at this
          exact this)
        have HRK := Lib.hid hrk
        have HLT := Lib.hid hlt
        have HLR := Lib.hid hlr
        have HR16 := Lib.hid hr16
        clear hlt hi hrk hcl
        go_upto_region 15 with fail
        refine wp_world (fun W => Cl W ms 4 16 (seenF R2 (i + 1)) ∧ Below w5.heap.size w5 W) ⟨HST.out, HB.out.setCell (by rw [HMS.out]; exact Nat.le_refl _) _⟩ ?_
        rintro wb ⟨hcb, hbb⟩
        have HCB := Lib.hid hcb
        have HBB := Lib.hid hbb
        clear hcb hbb k0 k1 f1 HST u1 u2
        have k0 := HCL.out wb HBB.out i HLR.out
        rw [← HRK.out] at k0
        go_wp2_with fail
        refine (quote_any g rk L wb HR16.out (HI5.out.kept HBB.out)).mono ?_
        rintro r0 wc ⟨rfl, hbc⟩
        have HCC := Lib.hid (HCB.out.kept hbc)
        have HBC := Lib.hid (HBB.out.trans (hbc.mono HBB.out.size))
        clear hbc k0
        unfold Ln.quote
        go_upto_region 16 with fail
        obtain ⟨m9, hm9⟩ : ∃ m, m = wc.heap.size := ⟨_, rfl⟩
        rw [← hm9]
        refine wp_world (fun W => W.heap[m9]? = some (.cells #[.int .i64 (L rk).deals, .float .f32 (L rk).avg, .float .f32 (L rk).spr, .int .u64 (L rk).low, .int .u64 (L rk).high] 32) ∧ Cl W ms 4 16 (seenF R2 (i + 1)) ∧ Below w5.heap.size w5 W) ⟨alloc_at hm9, HCC.out.kept ((Below.refl _ _).alloc (Nat.le_refl _) _), HBC.out.alloc HBC.out.size _⟩ ?_
        rintro wd ⟨hrd, hcd, hbd⟩
        have HRD := Lib.hid hrd
        have HCD := Lib.hid hcd
        have HBD := Lib.hid hbd
        clear hrd hcd hbd hm9
        by_cases h0 : i = 0
        · have b0 : decide ((i : Int) > 0) = false := by simp; omega
          have b0' : decide (0 < i) = false := by simp; omega
          clear h0
          go_wp2
          go_roundw
          case rel => exact ⟨i + 1, HLT.out, by go_num, HCD.out, by rw [HMS.out]; exact HBD.out⟩
          case measure => have := HLT.out; simp [intOf]; omega
        · have b0 : decide ((i : Int) > 0) = true := by simp; omega
          have b0' : decide (0 < i) = true := by simp; omega
          have b0'' : 0 < i := by omega
          obtain ⟨j, hj⟩ : ∃ j, i = j + 1 := ⟨i - 1, by omega⟩
          have HJ := Lib.hid hj
          have wj : IntKind.i64.wrap ((i : Int) - 1) = (j : Int) := by have := HN16.out; rw [IntKind.wrap_i64]; omega
          have ij : (j : Int) < (n : Int) := by omega
          have hjr : j < R2.length := by have := HLR.out; omega
          obtain ⟨rj, hrj⟩ : ∃ z, z = R2[j] := ⟨_, rfl⟩
          have HRJ := Lib.hid (show rj < 16 from by rw [hrj]; exact HR.out.lt hjr)
          have k0 := HCL.out wd HBD.out j hjr
          rw [← hrj] at k0
          have HCJ := Lib.hid (show ∀ V, Below w5.heap.size w5 V → V.cell? ⟨b4, o4 + i, none⟩ = some (.int .i64 (rk : Int)) ∧ V.cell? ⟨b4, o4 + j, none⟩ = some (.int .i64 (rj : Int)) from fun V hV => by
            refine ⟨?_, ?_⟩
            · rw [HCL.out V hV i HLR.out, ← HRK.out]
            · rw [HCL.out V hV j hjr, ← hrj])
          have HOR := Lib.hid (show n03.ordV (L rj).avg (L rk).avg = 1 ∨ n03.ordV (L rj).avg (L rk).avg = 0 ∧ rj < rk from by
            have h := HR.out.ord (i := j) (by have := HLR.out; omega)
            rw [hrj, HRK.out]
            subst hj
            exact h)
          clear h0 hj hrj hjr
          go_wp2_with fail
          refine (quote_any g rj L wd HRJ.out (HI5.out.kept HBD.out)).mono ?_
          rintro r0 we ⟨rfl, hbe⟩
          have HRE := Lib.hid (row_kept HRD.out hbe)
          have HCE := Lib.hid (HCD.out.kept hbe)
          have HBE := Lib.hid (HBD.out.trans (hbe.mono HBD.out.size))
          clear hbe k0
          unfold Ln.quote
          go_upto_region 18 with fail
          obtain ⟨m11, hm11⟩ : ∃ m, m = we.heap.size := ⟨_, rfl⟩
          rw [← hm11]
          refine wp_world (fun W => W.heap[m11]? = some (.cells #[.int .i64 (L rj).deals, .float .f32 (L rj).avg, .float .f32 (L rj).spr, .int .u64 (L rj).low, .int .u64 (L rj).high] 32) ∧ W.heap[m9]? = some (.cells #[.int .i64 (L rk).deals, .float .f32 (L rk).avg, .float .f32 (L rk).spr, .int .u64 (L rk).low, .int .u64 (L rk).high] 32) ∧ Cl W ms 4 16 (seenF R2 (i + 1)) ∧ Below w5.heap.size w5 W) ⟨alloc_at hm11, row_kept HRE.out ((Below.refl _ _).alloc (Nat.le_refl _) _), HCE.out.kept ((Below.refl _ _).alloc (Nat.le_refl _) _), HBE.out.alloc HBE.out.size _⟩ ?_
          rintro wf ⟨hr1, hr2, hcf, hbf⟩
          have HQ := Lib.hid (show ∀ V, Qt wf V → V.cell? ⟨m11, 1, none⟩ = some (.float .f32 (L rj).avg) ∧ V.cell? ⟨m9, 1, none⟩ = some (.float .f32 (L rk).avg) ∧ V.cell? ⟨b4, o4 + i, none⟩ = some (.int .i64 (rk : Int)) ∧ V.cell? ⟨b4, o4 + j, none⟩ = some (.int .i64 (rj : Int)) from fun V hV => by
            rw [hV.cell, hV.cell, hV.cell, hV.cell]
            obtain ⟨z1, z2⟩ := HCJ.out wf hbf
            refine ⟨?_, ?_, z1, z2⟩
            · rw [cell_of_row _ _ _ _ _ _ hr1]; rfl
            · rw [cell_of_row _ _ _ _ _ _ hr2]; rfl)
          have HOD := Lib.hid (show ∀ V, Qt wf V → Calls Try.prog 12 #[.float .f32 (L rj).avg, .float .f32 (L rk).avg] V fun r V' => r = .returned (.int .i64 (n03.ordV (L rj).avg (L rk).avg)) ∧ Qt wf V' from fun V hV => (n03.order_any _ _ (HAV.out rj) (HAV.out rk) V).mono fun r V' hh => ⟨hh.1, hh.2 ▸ hV⟩)
          have HCF := Lib.hid hcf
          have HBF := Lib.hid hbf
          clear hr1 hr2 hcf hbf hm11
          obtain ⟨ov, hov⟩ : ∃ z, z = n03.ordV (L rj).avg (L rk).avg := ⟨_, rfl⟩
          rw [← hov] at HOR HOD
          clear hov
          have HRES : ∀ V3, Qt wf V3 → Cl V3 ms 4 16 (seenF R2 (i + 1)) ∧ Below ms w5 V3 := fun V3 hV => ⟨HCF.out.kept (hV.below _), by rw [HMS.out]; exact HBF.out.trans (hV.below _)⟩
          have HRS := Lib.hid HRES
          clear HRES
          rcases HOR.out with hv | ⟨hv, hlt2⟩
          · have hx : ov = 1 := hv
            clear hx
            subst hv
            refine wp_region_inv2 26 (fun V => Qt wf V) (by kernel_rfl) (by kernel_rfl) (fun m => ⟨m, rfl⟩) ?_
            simp only [List.take_succ_cons, List.take_zero]
            iterate 26
              first
                | (apply wpInv_skip
                   · rfl)
                | (apply wpInv_cons
                   · rfl
                   · intro Wx hw
                     obtain ⟨q1, q2, q3, q4⟩ := HQ.out Wx hw
                     first
                       | (go_simp; exact ⟨hw, rfl⟩)
                       | (go_simp; show Calls _ _ _ _ _; with_reducible exact HOD.out _ hw))
              simp only [Act.put, List.setIfInBounds_toArray, List.set_cons_zero, List.set_cons_succ]
            refine wpInv_nil fun V3 hV => ?_
            have HV := Lib.hid (HRS.out V3 hV)
            clear hV
            simp only [List.drop_succ_cons, List.drop_zero]
            go_wp2
            go_roundw
            case rel => exact ⟨i + 1, HLT.out, by go_num, HV.out.1, HV.out.2⟩
            case measure => have := HLT.out; simp [intOf]; omega
          · have g1 : decide ((rj : Int) > (rk : Int)) = false := by simp; omega
            have g1' : decide (rk < rj) = false := by simp; omega
            have g1'' : ¬ rk < rj := by omega
            clear hlt2
            subst hv
            refine wp_region_inv2 26 (fun V => Qt wf V) (by kernel_rfl) (by kernel_rfl) (fun m => ⟨m, rfl⟩) ?_
            simp only [List.take_succ_cons, List.take_zero]
            iterate 26
              first
                | (apply wpInv_skip
                   · rfl)
                | (apply wpInv_cons
                   · rfl
                   · intro Wx hw
                     obtain ⟨q1, q2, q3, q4⟩ := HQ.out Wx hw
                     first
                       | (go_simp; exact ⟨hw, rfl⟩)
                       | (go_simp; show Calls _ _ _ _ _; with_reducible exact HOD.out _ hw))
              simp only [Act.put, List.setIfInBounds_toArray, List.set_cons_zero, List.set_cons_succ]
            refine wpInv_nil fun V3 hV => ?_
            have HV := Lib.hid (HRS.out V3 hV)
            clear hV
            simp only [List.drop_succ_cons, List.drop_zero]
            go_wp2
            go_roundw
            case rel => exact ⟨i + 1, HLT.out, by go_num, HV.out.1, HV.out.2⟩
            case measure => have := HLT.out; simp [intOf]; omega
      · have t1 : decide ((i : Int) < (n : Int)) = false := by simp; omega
        obtain rfl : i = n := by omega
        have HTK := Lib.hid (show R2.take i = R2 from by rw [HN.out, List.take_length])
        clear hlt hi t1
        go_wp2
        go_loopw [13] (fun s13 V => ∃ k : Nat, k ≤ 16 ∧ s13 = .int .i64 k ∧ Cl V ms 4 16 (seenF R2 i) ∧ Below w5.heap.size w5 V) (fun i _ => 16 - (intOf i).toNat)
        case atStart => exact ⟨0, Nat.zero_le _, rfl, HC.out, HB.out⟩
        case round =>
          clear HC HB HIA HSL
          obtain ⟨wb, hwb⟩ : ∃ W, W = wr := ⟨_, rfl⟩
          subst hwb
          obtain ⟨k, hk, rfl, hc, hb⟩ := hrel
          have HC := Lib.hid hc
          have HB := Lib.hid hb
          clear hc hb
          by_cases hlt : k < 16
          · have t1 : decide ((k : Int) < 16) = true := by simp; omega
            have ik : (k : Int) < 16 := by omega
            have tk : IntKind.i64.wrap ((k : Int) + 1) = ((k + 1 : Nat) : Int) := by rw [IntKind.wrap_i64]; omega
            have HK := Lib.hid hlt
            clear hlt hk
            go_wp2_with fail
            refine (quote_any g k L wb HK.out (HI5.out.kept HB.out)).mono ?_
            rintro r0 wc ⟨rfl, hbc⟩
            have HCC := Lib.hid (HC.out.kept hbc)
            have HBC := Lib.hid (HB.out.trans (hbc.mono HB.out.size))
            clear hbc
            unfold Ln.quote
            go_upto_region 24 with fail
            obtain ⟨m14, hm14⟩ : ∃ m, m = wc.heap.size := ⟨_, rfl⟩
            rw [← hm14]
            obtain ⟨xd, hxd⟩ : ∃ z, z = (L k).deals := ⟨_, rfl⟩
            obtain ⟨b, hbb⟩ : ∃ z, z = decide (k ∈ R2) := ⟨_, rfl⟩
            have e1 : decide (xd > 0) = b := by
              rw [hxd, hbb, decide_eq_decide, HR.out.mem]
              exact ⟨fun h => ⟨HK.out, h⟩, fun h => h.2⟩
            refine wp_world (fun W => W.cell? ⟨m14, 0, none⟩ = some (.int .i64 xd) ∧ W.cell? ⟨ms, k, none⟩ = some (.bool b) ∧ Cl W ms 4 16 (seenF R2 i) ∧ Below w5.heap.size w5 W) ⟨by rw [cell_of_row _ _ _ _ _ _ (alloc_at hm14), hxd]; rfl, by
              have := seen_cell (HCC.out.kept ((Below.refl _ _).alloc (Nat.le_refl _) (.cells #[.int .i64 (L k).deals, .float .f32 (L k).avg, .float .f32 (L k).spr, .int .u64 (L k).low, .int .u64 (L k).high] 32))) HK.out
              rw [HTK.out, ← hbb] at this
              exact this, HCC.out.kept ((Below.refl _ _).alloc (Nat.le_refl _) _), HBC.out.alloc HBC.out.size _⟩ ?_
            rintro wd ⟨k0, k1, hcd, hbd⟩
            have HCD := Lib.hid hcd
            have HBD := Lib.hid hbd
            have e2 : (b != b) = false := by simp
            clear hcd hbd hm14 hxd hbb
            go_quiet (fail)
            go_wp2
            go_roundw
            case rel => exact ⟨k + 1, HK.out, by go_num, HCD.out.kept (below_drawn (Below.refl _ _) _), HBD.out.trans (below_drawn (Below.refl _ _) _)⟩
            case measure => have := HK.out; simp [intOf]; omega
          · have t1 : decide ((k : Int) < 16) = false := by simp; omega
            have HT := Lib.hid (HT5.out.below rfl HB.out)
            clear hlt hk HC HB
            go_wp2
            go_loopw [16] (fun s16 V => ∃ q : Nat, q ≤ i ∧ s16 = .int .i64 q ∧ ∃ xs, Three V w2 w2.heap.size (.slice a4 i c4) i xs v5 i (vN R2) v6 i (vN R2)) (fun j _ => i - (intOf j).toNat)
            case atStart => exact ⟨0, Nat.zero_le _, rfl, _, HT.out⟩
            case round =>
              clear HT
              obtain ⟨wc, hwc⟩ : ∃ W, W = wr := ⟨_, rfl⟩
              subst hwc
              obtain ⟨q, hq, rfl, xs, ht⟩ := hrel
              have HT := Lib.hid ht
              clear ht
              by_cases hlt : q < i
              · have t1 : decide ((q : Int) < (i : Int)) = true := by simp; omega
                have iq : (q : Int) < (i : Int) := by omega
                have tq : IntKind.i64.wrap ((q : Int) + 1) = ((q + 1 : Nat) : Int) := by have := HN16.out; rw [IntKind.wrap_i64]; omega
                obtain ⟨g4, cap4, cur, e4, hg4, hr4, hn4, hm4, hs4, htk4⟩ := owns_cases HT.out.r4 (by omega)
                cases e4
                have f1 := frozen_of_row _ _ q _ _ hr4
                have c1 : ∃ u, wc.cell? ⟨g4, q, none⟩ = some u := ⟨cur[q]'(by omega), by rw [cell_of_row _ _ _ _ _ _ hr4, Array.getElem?_eq_getElem (by omega)]⟩
                obtain ⟨u1, c1⟩ := c1
                have HLT := Lib.hid hlt
                clear hlt hq hg4 hr4 hn4 hm4 hs4 htk4
                go_wp2
                go_roundw
                case rel => exact ⟨q + 1, HLT.out, by go_num, _, HT.out.set HLT.out⟩
                case measure => have := HLT.out; simp [intOf]; omega
              · have t1 : decide ((q : Int) < (i : Int)) = false := by simp; omega
                have HXL := Lib.hid (show xs.length = i from by have := HT.out.r4.1; omega)
                have t1' : decide (q < i) = false := by simp; omega
                have t1'' : ¬ q < i := by omega
                have t1''' : i ≤ q := by omega
                clear hlt hq
                go_wp2
                go_loopw [4, 17] (fun s4 s17 V => ∃ q : Nat, q ≤ 40 ∧ s17 = .int .i64 q ∧ Three V w2 w2.heap.size s4 (i + q) (xs ++ tl7 700 q) v5 i (vN R2) v6 i (vN R2)) (fun _ j _ => 40 - (intOf j).toNat)
                case atStart => exact ⟨0, Nat.zero_le _, rfl, by simpa [tl7] using HT.out⟩
                case round =>
                  clear HT
                  obtain ⟨wd, hwd⟩ : ∃ W, W = wr := ⟨_, rfl⟩
                  subst hwd
                  obtain ⟨q, hq, rfl, ht⟩ := hrel
                  have HT := Lib.hid ht
                  clear ht
                  by_cases hlt : q < 40
                  · have t1 : decide ((q : Int) < 40) = true := by simp; omega
                    have wz : IntKind.i64.wrap (700 + (q : Int)) = 700 + (q : Int) := by rw [IntKind.wrap_i64]; omega
                    have tq : IntKind.i64.wrap ((q : Int) + 1) = ((q + 1 : Nat) : Int) := by rw [IntKind.wrap_i64]; omega
                    have h63 : i + q + 1 ≤ maxLen := by have := HN16.out; unfold maxLen; omega
                    have hby : (i + q + 1) * 8 ≤ 140737488355328 := by have := HN16.out; omega
                    have HTA := Lib.hid (HT.out.below (V' := wd.alloc (.cells #[.int .i64 (700 + (q : Int))] 3)) rfl ((Below.refl _ _).alloc (Nat.le_refl _) _))
                    have hbs : w2.heap.size ≤ (wd.alloc (.cells #[.int .i64 (700 + (q : Int))] 3)).heap.size := HTA.out.bel.size
                    have HLT := Lib.hid hlt
                    clear hlt hq
                    go_wp2_with (at_builtin; refine wpList_append_two rfl _ _ 26 rfl w2.heap.size 3 (.int .i64 0) 1 8 Try.underlying26 infoI (by rfl) (by decide) _ (i + q) (xs ++ tl7 700 q) (by rfl) HTA.out.r4 ⟨wd.heap.size, 0, none⟩ 1 1 [.int .i64 (700 + (q : Int))] (by rfl) (by decide) (by rfl) (sl_new wd [.int .i64 (700 + (q : Int))] 3 (0, 0)) (one_int _) h63 hby hbs ?a3)
                    intro v7 w7 ho7 hg7 hl7
                    have HT7 := Lib.hid (HTA.out.app (v' := v7) (n' := i + (q + 1)) (y := xs ++ tl7 700 (q + 1)) (N := wd.heap.size + 1) rfl (by rw [tl7_succ]; exact ho7) hg7 (by simp) (by simpa using hl7))
                    clear ho7 hg7 hl7 h63 hby hbs
                    go_wp2
                    go_roundw
                    case rel => exact ⟨q + 1, HLT.out, by go_num, HT7.out⟩
                    case measure => have := HLT.out; simp [intOf]; omega
                  · have t1 : decide ((q : Int) < 40) = false := by simp; omega
                    obtain rfl : q = 40 := by omega
                    clear hlt hq
                    obtain ⟨a5, c5, rfl, hs5, _, hg5⟩ := owns_sl2 HT.out.r5
                    obtain ⟨a6, c6, rfl, hs6, _, hg6⟩ := owns_sl2 HT.out.r6
                    have HIN := Lib.hid (show ∀ (a b : Option Addr) (c d : Nat) (V : World), Sl V a (vN R2) → Sl V b (vN R2) → Calls Try.prog 13 #[.slice a i c, .slice b i d] V fun e w' => e = .returned (.bool true) ∧ Qt V w' from fun a b c d V h1 h2 => by
                      have h := ints_true a b c d R2 V (by rw [← HN.out]; have := HN16.out; unfold maxLen; omega) h1 h2
                      rw [← HN.out] at h
                      exact h)
                    have HS5 := Lib.hid hs5
                    have HS6 := Lib.hid hs6
                    clear hs5 hs6 hg5 hg6
                    go_wp2_with fail
                    refine (HIN.out a5 a6 c5 c6 _ HS5.out HS6.out).mono ?_
                    rintro r0 we ⟨rfl, hq⟩
                    have HTE := Lib.hid (HT.out.below rfl (hq.below _))
                    clear hq HS5 HS6 HT
                    go_wp2
                    go_loopw [5, 18] (fun s5 s18 V => ∃ q : Nat, q ≤ 40 ∧ s18 = .int .i64 q ∧ Three V w2 w2.heap.size s5 (i + q) (vN R2 ++ tl7 900 q) u4 (i + 40) (xs ++ tl7 700 40) (.slice a6 i c6) i (vN R2)) (fun _ j _ => 40 - (intOf j).toNat)
                    case atStart => exact ⟨0, Nat.zero_le _, rfl, by simpa [tl7] using HTE.out.swap⟩
                    case round =>
                      clear HTE
                      obtain ⟨wf, hwf⟩ : ∃ W, W = wr := ⟨_, rfl⟩
                      subst hwf
                      obtain ⟨q, hq, rfl, ht⟩ := hrel
                      have HT := Lib.hid ht
                      clear ht
                      by_cases hlt : q < 40
                      · have t1 : decide ((q : Int) < 40) = true := by simp; omega
                        have wz : IntKind.i64.wrap (900 + (q : Int)) = 900 + (q : Int) := by rw [IntKind.wrap_i64]; omega
                        have tq : IntKind.i64.wrap ((q : Int) + 1) = ((q + 1 : Nat) : Int) := by rw [IntKind.wrap_i64]; omega
                        have h63 : i + q + 1 ≤ maxLen := by have := HN16.out; unfold maxLen; omega
                        have hby : (i + q + 1) * 8 ≤ 140737488355328 := by have := HN16.out; omega
                        have HTA := Lib.hid (HT.out.below (V' := wf.alloc (.cells #[.int .i64 (900 + (q : Int))] 3)) rfl ((Below.refl _ _).alloc (Nat.le_refl _) _))
                        have hbs : w2.heap.size ≤ (wf.alloc (.cells #[.int .i64 (900 + (q : Int))] 3)).heap.size := HTA.out.bel.size
                        have HLT := Lib.hid hlt
                        clear hlt hq
                        go_wp2_with (at_builtin; refine wpList_append_two rfl _ _ 26 rfl w2.heap.size 3 (.int .i64 0) 1 8 Try.underlying26 infoI (by rfl) (by decide) _ (i + q) (vN R2 ++ tl7 900 q) (by rfl) HTA.out.r4 ⟨wf.heap.size, 0, none⟩ 1 1 [.int .i64 (900 + (q : Int))] (by rfl) (by decide) (by rfl) (sl_new wf [.int .i64 (900 + (q : Int))] 3 (0, 0)) (one_int _) h63 hby hbs ?a5)
                        intro v7 w7 ho7 hg7 hl7
                        have HT7 := Lib.hid (HTA.out.app (v' := v7) (n' := i + (q + 1)) (y := vN R2 ++ tl7 900 (q + 1)) (N := wf.heap.size + 1) rfl (by rw [tl7_succ]; exact ho7) hg7 (by simp) (by simpa using hl7))
                        clear ho7 hg7 hl7 h63 hby hbs
                        go_wp2
                        go_roundw
                        case rel => exact ⟨q + 1, HLT.out, by go_num, HT7.out⟩
                        case measure => have := HLT.out; simp [intOf]; omega
                      · have t1 : decide ((q : Int) < 40) = false := by simp; omega
                        obtain rfl : q = 40 := by omega
                        clear hlt hq
                        obtain ⟨g5, cap5, cur5, rfl, hg5, hr5, hn5, hm5, hz5, htk5⟩ := owns_cases HT.out.r4 (by omega)
                        obtain ⟨g4, cap4, cur4, rfl, hg4, hr4, hn4, hm4, hz4, htk4⟩ := owns_cases HT.out.r5 (by omega)
                        have hsl := fun W => run_slice_hi (P := Try.prog) Try.underlying26 (show (Try.prog.info? 3).map (·.size) = some 1 from by kernel_rfl) (some ⟨g5, 0, none⟩) ⟨_, rfl⟩ (i + 40) cap5 .i64 (i : Int) i rfl (by omega) W
                        have HXL4 := Lib.hid (show (xs ++ tl7 700 40).length = i + 40 from by have := HT.out.r5.1; omega)
                        have hc4 : ∀ j, j < i + 40 → wf.cell? ⟨g4, j, none⟩ = (xs ++ tl7 700 40)[j]? := fun j hj => by
                          rw [cell_of_row _ _ _ _ _ _ hr4, ← htk4, List.getElem?_take_of_lt (by omega)]
                          simp
                        have k1 : wf.cell? ⟨g4, i, none⟩ = some (.int .i64 700) := by
                          rw [hc4 i (by omega), List.getElem?_append_right (by rw [HXL.out]; exact Nat.le_refl _), HXL.out, Nat.sub_self, tl7_get _ _ _ (by decide)]; rfl
                        have k2 : wf.cell? ⟨g4, i + 39, none⟩ = some (.int .i64 739) := by
                          rw [hc4 (i + 39) (by omega), List.getElem?_append_right (by rw [HXL.out]; omega), HXL.out, Nat.add_sub_cancel_left, tl7_get _ _ _ (by decide)]; rfl
                        have HK4 := Lib.hid (show ∀ V, Qt wf V → V.cell? ⟨g4, i, none⟩ = some (.int .i64 700) ∧ V.cell? ⟨g4, i + 39, none⟩ = some (.int .i64 739) from fun V hV => by rw [hV.cell, hV.cell]; exact ⟨k1, k2⟩)
                        have HS5 := Lib.hid (show Sl wf (some ⟨g5, 0, none⟩) (vN R2) from fun _ => ⟨g5, 0, rfl, fun j hj => by
                          rw [cell_of_row _ _ _ _ _ _ hr5, Nat.zero_add]
                          have h1 : cur5.toList.take ((i + 40) * 1) = vN R2 ++ tl7 900 40 := htk5
                          have h2 : j < i := by rw [vN_len, ← HN.out] at hj; exact hj
                          have h3 : (cur5.toList.take ((i + 40) * 1))[j]? = (vN R2)[j]? := by rw [h1, List.getElem?_append_left hj]
                          rw [List.getElem?_take_of_lt (by omega)] at h3
                          simpa using h3⟩)
                        obtain ⟨a6', c6', e6, hs6, _, _⟩ := owns_sl2 HT.out.r6
                        cases e6
                        have HS6 := Lib.hid hs6
                        have wn : IntKind.i64.wrap ((i : Int) + 39) = ((i + 39 : Nat) : Int) := by have := HN16.out; rw [IntKind.wrap_i64]; omega
                        have j1 : (i : Int) < ((i + 40 : Nat) : Int) := by omega
                        have j2 : ((i + 39 : Nat) : Int) < ((i + 40 : Nat) : Int) := by omega
                        clear hg5 hr5 hn5 hm5 hz5 htk5 hg4 hr4 hn4 hm4 hz4 htk4 hc4 k1 k2 hs6
                        go_wp2_with fail
                        refine (HIN.out (some ⟨g5, 0, none⟩) a6 cap5 c6 _ HS5.out HS6.out).mono ?_
                        rintro r0 wg ⟨rfl, hq⟩
                        obtain ⟨k1, k2⟩ := HK4.out wg hq
                        have HTG := Lib.hid (HT.out.below rfl (hq.below _))
                        clear hq HT HS5 HS6
                        go_wp2_with fail
                        refine (rank_any g L wg HAV.out (HI2.out.kept HTG.out.bel)).mono ?_
                        rintro r0 wh ⟨⟨v, rfl, hv⟩, hbh⟩
                        obtain ⟨a7, c7, rfl, hs7⟩ := hv.sl HR.out
                        rw [← HN.out]
                        have HTH := Lib.hid (HTG.out.below rfl hbh)
                        have HS7 := Lib.hid hs7
                        have HS6 := Lib.hid (show Sl wh a6 (vN R2) from by
                          obtain ⟨a', c', e, h, _⟩ := owns_sl2 HTH.out.r6
                          cases e
                          exact h)
                        clear hv hs7 hbh k1 k2
                        go_wp2_with fail
                        refine (HIN.out a7 a6 c7 c6 wh HS7.out HS6.out).mono ?_
                        rintro r0 wi ⟨rfl, hq⟩
                        go_wp2
                        go_ret
                        exact ⟨rfl, HB2.out.trans ((HTH.out.bel.trans (hq.below _)).mono HB2.out.size)⟩
theorem own : ownKnob Try.prog.godebug = none := by kernel_rfl
theorem laidOut : laidOutB Try.prog = true := by kernel_rfl
set_option maxRecDepth 100000 in
theorem lifted (os : Os) (started : os.Started) (H : Type) (enc : TypeId × Value → H) :
    ReturnsInHanded {} Try.checked os 3 .any (Rows.indexRanksSpec.pre6 enc Try.prog Try.f3 Rows.indexRanksRow.domain false) (Rows.indexRanksSpec.post enc Try.prog Try.f3 false true false false) := by
  refine returnsInHanded_of_change_sized (C := Try.checked) own started (by kernel_rfl) Try.func3
    (ChangeSpec.witness6 (enc := enc) (C := Try.checked) false ⟨#[], #[.slice none 0 0], []⟩ 8 (by kernel_rfl) (by kernel_rfl) (by kernel_rfl) (by kernel_rfl)) ?_
  intro W base args ds gs before hval0 hW hcnd hsz0 _
  have hsz : (DataW.weightsEach Try.prog (Try.f3.params.toList ++ Rows.indexRanksSpec.plain.varTypes Try.prog) (ds ++ gs)).all (· ≤ reachBytes) = true := hsz0
  clear hsz0
  have hval : ∀ (j : Nat) t v, Try.f3.params[j]? = some t → args[j]? = some v → Value.okWide Try.prog W .any base t v := hval0
  have hW' := hW
  obtain ⟨p, q, hA0, hV, rfl, hfz, hnd⟩ := hW
  have hA : DataW.TrodAll enc Try.prog W 0 (fun _ => true) true Try.f3.params.toList args.toList ds p := hA0
  rw [Try.params3] at hA hval hsz
  obtain ⟨v0, vs0, d0, ds0, p0, q0, hargs, rfl, rfl, h0, r0⟩ := trodAll_cons hA
  obtain ⟨rfl, rfl, rfl⟩ := trodAll_nil r0
  obtain rfl : args = #[v0] := by cases args; simp_all
  obtain ⟨rfl, rfl⟩ := trodVars_none hV
  have k0 := h0
  have lt0 : ∀ x ∈ p0, x.block < W.heap.size := by obtain ⟨m, hm⟩ := k0; exact DataW.trod_lt m _ _ _ hm
  obtain ⟨a0, cap0, l0, rfl, n0⟩ := open_dls (hval 0 22 v0 rfl rfl) h0 hsz (j := 0) rfl rfl
  clear hA0 hval0
  refine (walk a0 cap0 l0 W n0).mono fun e W' ⟨he, bel⟩ => ?_
  subst he
  exact ⟨_, rfl, _, _, _, [], _, [], hW', trodAll_mk1 (shut_bool Try.underlying4 _), (trodAll_cons_mk (Below.trod laidOut (by kernel_rfl) (of_decide_eq_true (by kernel_rfl)) k0 bel lt0) trodAll_mk0), rfl, bel.frame _, fun h => by cases h⟩
theorem over : Rows.indexRanksRow.holds Try.pinned (OpenSpec.ofChange Rows.indexRanksSpec) :=
  OpenClaim.holds_of_wide 3 Try.f3 rfl rfl rfl rfl rfl rfl rfl ⟨rfl, rfl, rfl, rfl, rfl⟩ rfl rfl rfl rfl rfl (by kernel_rfl) Try.func3 (by kernel_rfl)
    (of_decide_eq_true (by kernel_rfl)) (by unfold Func.isWrapper; first | (rw [if_pos (by decide +kernel)]; kernel_rfl) | (rw [if_neg (by decide +kernel)]; exact ⟨rfl, rfl⟩))
    (fun os started H enc _ => lifted os started H enc)
theorem proved : Rows.IndexRanksSaid := over
#print axioms proved
end Go.Proofs.Ythadfopkacbnlaa.lawIndexRanks
