/-
  Averages and the hours' reals lie between the lowest and the highest price; the spread between nothing and what lies between these.
-/
import Derived.Test.YthadfopkacbnlaaUb
import Derived.Test.YthadfopkacbnlaaVa
import Derived.Test.YthadfopkacbnlaaYa
namespace Go.Proofs.Ythadfopkacbnlaa.lawIndexBetween
open Go.RowKit Go.K Go.ChangeShapes Go.WideShapes Go.ChangeAt Stab
set_option linter.unusedVariables false
set_option linter.unusedSimpArgs false
attribute [local go_sem] run_store_float
def hasF (x : Ln) (q : Nat) : Option Value := if q < 8 then some (.bool (x.has q)) else none
theorem hasF_set {x y : Ln} {h : Nat} (hh : h < 8) (hy : ∀ q, y.has q = if q = h then true else x.has q) (q : Nat) (v : Value) (e : hasF y q = some v) : (if q = h then some (Value.bool true) else hasF x q) = some v := by
  unfold hasF at e ⊢
  split at e
  · rename_i h8
    rw [hy] at e
    by_cases c : q = h
    · rw [if_pos c] at e ⊢; exact e
    · rw [if_neg c] at e ⊢; rw [if_pos h8]; exact e
  · cases e
theorem tick_ix (tt : Nat) (ht : tt ≤ 1099511627776) (hh : Nat) (h : hh = tt / 64 % 8) : (tt : Int) / 64 % 8 = (hh : Int) ∧ wrap64 ((tt : Int) / 64) = (tt : Int) / 64 ∧ ((tt : Int) / 64).tmod 8 = (hh : Int) := by
  have eh : (tt : Int) / 64 % 8 = (hh : Int) := by omega
  have eh0 : 0 ≤ (tt : Int) / 64 := by omega
  refine ⟨eh, by unfold wrap64; omega, ?_⟩
  rw [Int.tmod_eq_emod_of_nonneg eh0]; exact eh
set_option maxRecDepth 100000 in
set_option maxHeartbeats 8000000 in
theorem walk (a : Option Addr) (c : Nat) (l : List Dl) (w : World) (hd : DlsOk w a c l) :
    Calls Try.prog 5 #[.slice a l.length c] w fun e w' => e = .returned (.bool true) ∧ Below w.heap.size w w' := by
  have HD := Lib.hid hd
  clear hd
  go_enter Try.func5, Try.ntmps5
  go_wp2_with fail
  refine (known_any w).mono ?_
  rintro r0 w1 ⟨rfl, hb1⟩
  have HB1 := Lib.hid hb1
  clear hb1
  go_wp2_with fail
  refine (hear_any a c l w1 (by have := HD.out.mx; omega) HD.out.pr (HD.out.kept (HB1.out)).sl).mono ?_
  rintro r0 w2 ⟨rfl, hi2, hb2⟩
  obtain ⟨g, hg⟩ : ∃ g, g = w1.heap.size := ⟨_, rfl⟩
  obtain ⟨L, hL⟩ : ∃ L, L = hearL l := ⟨_, rfl⟩
  rw [← hg, ← hL] at hi2
  rw [← hg]
  have HGG := Lib.hid (show w.heap.size ≤ g from by rw [hg]; exact HB1.out.size)
  have HLL := Lib.hid hL
  have HI2 := Lib.hid hi2
  have HB2 := Lib.hid (HB1.out.trans (hb2.mono HB1.out.size))
  clear hi2 hb2 hg hL
  go_wp2
  go_loopw [4] (fun i V => ∃ k : Nat, k ≤ 16 ∧ i = .int .i64 k ∧ Ix V g L ∧ Below w.heap.size w V) (fun i _ => 16 - (intOf i).toNat)
  case atStart => exact ⟨0, Nat.zero_le _, rfl, HI2.out, HB2.out⟩
  case round =>
    clear HI2 HB2
    obtain ⟨wa, hwa⟩ : ∃ W, W = wr := ⟨_, rfl⟩
    subst hwa
    obtain ⟨k, hk, rfl, hi, hb⟩ := hrel
    have HI := Lib.hid hi
    have HB := Lib.hid hb
    clear hi hb
    by_cases hlt : k < 16
    · have t0 : decide ((k : Int) < 16) = true := by simp; omega
      have tk : IntKind.i64.wrap ((k : Int) + 1) = ((k + 1 : Nat) : Int) := by rw [IntKind.wrap_i64]; omega
      have HK := Lib.hid hlt
      clear hlt hk
      obtain ⟨X, hX⟩ : ∃ X, X = L k := ⟨_, rfl⟩
      have HX := Lib.hid hX
      obtain ⟨lo, hi', hbt⟩ := hearL_btw l HD.out.pr k
      rw [← HLL.out, ← hX] at hbt
      have HBT := Lib.hid hbt
      clear hbt
      go_wp2_with fail
      refine (quote_any g k L wa HK.out HI.out).mono ?_
      rintro r0 w3 ⟨rfl, hb3⟩
      have HI3 := Lib.hid (HI.out.kept hb3)
      have HB3 := Lib.hid (HB.out.trans (hb3.mono HB.out.size))
      clear hb3
      rw [← hX]
      unfold Ln.quote
      rw [HBT.out.lo, HBT.out.hi]
      obtain ⟨xd, hxd⟩ : ∃ xd, xd = X.deals := ⟨_, rfl⟩
      obtain ⟨xa, hxa⟩ : ∃ xa, xa = X.avg := ⟨_, rfl⟩
      obtain ⟨xs, hxs⟩ : ∃ xs, xs = X.spr := ⟨_, rfl⟩
      rw [← hxd, ← hxa, ← hxs]
      have HXD := Lib.hid (And.intro hxd (And.intro hxa hxs))
      clear hxd hxa hxs hX
      go_wp2_with fail
      obtain ⟨mq, hmq⟩ : ∃ m, m = w3.heap.size := ⟨_, rfl⟩
      obtain ⟨w4, h4⟩ : ∃ W, W = w3.alloc (.cells #[.int .i64 xd, .float .f32 xa, .float .f32 xs, .int .u64 (lo : Int), .int .u64 (hi' : Int)] 32) := ⟨_, rfl⟩
      rw [← h4, ← hmq]
      have HR4 := Lib.hid (show w4.heap[mq]? = some (.cells #[.int .i64 xd, .float .f32 xa, .float .f32 xs, .int .u64 (lo : Int), .int .u64 (hi' : Int)] 32) from by rw [h4]; exact alloc_at hmq)
      have HI4 := Lib.hid (show Ix w4 g L from by rw [h4]; exact HI3.out.kept ((Below.refl _ _).alloc (Nat.le_refl _) _))
      have HB4 := Lib.hid (show Below w.heap.size w w4 from by rw [h4]; exact HB3.out.alloc HB3.out.size _)
      have HMQ := Lib.hid (show w.heap.size ≤ mq from by rw [hmq]; exact HB3.out.size)
      clear h4 hmq
      refine (day_any g k L w4 HK.out HI4.out).mono ?_
      rintro r0 w5 ⟨rfl, hb5⟩
      have HI5 := Lib.hid (HI4.out.kept hb5)
      have HR5 := Lib.hid (row_kept HR4.out hb5)
      have HB5 := Lib.hid (HB4.out.trans (hb5.mono HB4.out.size))
      clear hb5
      rw [← HX.out]
      unfold Ln.dayV
      go_upto_region 11 with fail
      obtain ⟨md, hmd⟩ : ∃ m, m = w5.heap.size := ⟨_, rfl⟩
      rw [← hmd]
      refine wp_world (fun W => (∀ t, t < 8 → W.cell? ⟨md, t, none⟩ = some (.float .f32 (X.day t))) ∧ W.heap[mq]? = some (.cells #[.int .i64 xd, .float .f32 xa, .float .f32 xs, .int .u64 (lo : Int), .int .u64 (hi' : Int)] 32) ∧ Ix W g L ∧ Below w.heap.size w W ∧ md < W.heap.size) ⟨fun t ht => ?_, row_kept HR5.out ((Below.refl _ _).alloc (Nat.le_refl _) _), HI5.out.kept ((Below.refl _ _).alloc (Nat.le_refl _) _), HB5.out.alloc HB5.out.size _, by rw [hmd]; simp⟩ ?_
      · rw [cell_of_row _ _ _ _ _ _ (alloc_at hmd)]
        have h8 : t = 0 ∨ t = 1 ∨ t = 2 ∨ t = 3 ∨ t = 4 ∨ t = 5 ∨ t = 6 ∨ t = 7 := by omega
        rcases h8 with rfl | rfl | rfl | rfl | rfl | rfl | rfl | rfl <;> rfl
      rintro w6 ⟨hc6, hr6, hi6, hb6, hs6⟩
      have HC6 := Lib.hid hc6
      have HR6 := Lib.hid hr6
      have HI6 := Lib.hid hi6
      have HB6 := Lib.hid hb6
      have HS6 := Lib.hid hs6
      clear hc6 hr6 hi6 hb6 hs6 hmd
      go_wp2_with fail
      refine (num_any 0 _).mono ?_
      rintro r0 w7 ⟨rfl, rfl⟩
      go_wp2_with fail
      refine (num_any 0 _).mono ?_
      rintro r0 w7 ⟨rfl, rfl⟩
      go_upto_region 16 with fail
      obtain ⟨mh, hmh⟩ : ∃ m, m = w6.heap.size := ⟨_, rfl⟩
      rw [← hmh]
      refine wp_world (fun W => Cl W mh 60 8 (hasF lnZ) ∧ Below mh w6 W ∧ W.heap.size = mh + 1) ⟨⟨_, alloc_at hmh, rfl, fun q v e => ?_⟩, (Below.refl _ _).alloc (by rw [hmh]; exact Nat.le_refl _) _, by rw [hmh]; simp⟩ ?_
      · unfold hasF at e
        split at e
        · rename_i h8
          have h8 : q = 0 ∨ q = 1 ∨ q = 2 ∨ q = 3 ∨ q = 4 ∨ q = 5 ∨ q = 6 ∨ q = 7 := by omega
          rcases h8 with rfl | rfl | rfl | rfl | rfl | rfl | rfl | rfl <;> exact e
        · cases e
      rintro w8 ⟨hc8, hb8, hs8⟩
      have HC8 := Lib.hid hc8
      have HB8 := Lib.hid hb8
      have HMH := Lib.hid hmh
      clear hc8 hb8 hs8 hmh
      go_wp2
      go_loopw [9, 10, 11, 13] (fun s9 s10 s11 s13 V => ∃ i : Nat, i ≤ l.length ∧ s13 = .int .i64 i ∧ s9 = .int .i64 (hearL (l.take i) k).deals ∧ s10 = .int .u64 (hearL (l.take i) k).low ∧ s11 = .int .u64 (hearL (l.take i) k).high ∧ Cl V mh 60 8 (hasF (hearL (l.take i) k)) ∧ Below mh w6 V) (fun _ _ _ i _ => l.length - (intOf i).toNat)
      case atStart => exact ⟨0, Nat.zero_le _, rfl, rfl, rfl, rfl, HC8.out, HB8.out⟩
      case round =>
        clear HC8 HB8
        obtain ⟨wb, hwb⟩ : ∃ W, W = wr := ⟨_, rfl⟩
        subst hwb
        obtain ⟨i, hi, rfl, rfl, rfl, rfl, hc, hb⟩ := hrel
        have HC := Lib.hid hc
        have HBB := Lib.hid hb
        have HBW := Lib.hid (show Below w.heap.size w wb from HB6.out.trans (hb.mono (by rw [HMH.out]; exact HB6.out.size)))
        clear hc hb
        by_cases hlt : i < l.length
        · have t1 : decide ((i : Int) < (l.length : Int)) = true := by simp; omega
          have ii : (i : Int) < (l.length : Int) := by omega
          have ti : IntKind.i64.wrap ((i : Int) + 1) = ((i + 1 : Nat) : Int) := by have := HD.out.mx; rw [IntKind.wrap_i64]; omega
          obtain ⟨b, off, rfl, c0, c1, c2⟩ := deal_at (HD.out.sl.kept HBW.out) i hlt
          obtain ⟨d, hd⟩ : ∃ d, d = l[i] := ⟨_, rfl⟩
          rw [← hd] at c0 c1 c2
          have HST := Lib.hid (show hearL (l.take (i + 1)) k = if k = d.k then dealLn (hearL (l.take i) d.k) d.price (d.t / 64 % 8) else hearL (l.take i) k from by rw [hearL_take l hlt, ← hd]; rfl)
          have HLT := Lib.hid hlt
          have HG0 := Lib.hid (hearL_good (l.take i) (fun d hd => HD.out.pr d (List.mem_of_mem_take hd)) k)
          have HLN := Lib.hid (show (l.take i).length = i from by rw [List.length_take]; omega)
          have HMX := Lib.hid (show l.length * 24 ≤ 140737488355328 from HD.out.mx)
          obtain ⟨y, hy⟩ : ∃ y, y = hearL (l.take i) k := ⟨_, rfl⟩
          rw [← hy] at HC HG0 ⊢
          have HY := Lib.hid hy
          clear hd hy hlt hi
          obtain ⟨yd, hyd⟩ : ∃ z, z = y.deals := ⟨_, rfl⟩
          obtain ⟨yl, hyl⟩ : ∃ z, z = y.low := ⟨_, rfl⟩
          obtain ⟨yh, hyh⟩ : ∃ z, z = y.high := ⟨_, rfl⟩
          rw [← hyd, ← hyl, ← hyh]
          have HYD := Lib.hid (And.intro hyd (And.intro hyl hyh))
          have HPL := Lib.hid (show ∀ V, Calls Try.prog 15 #[.int .i64 d.kind, .int .i64 16] V fun r V' => r = .returned (.int .i64 (d.k : Int)) ∧ V = V' from fun V => by rw [← Dl.k_eq]; exact place_any d.kind 16 V (by decide) (by decide))
          have HPT := Lib.hid (show ∀ V, Calls Try.prog 15 #[.int .i64 d.tick, .int .i64 1099511627777] V fun r V' => r = .returned (.int .i64 (d.t : Int)) ∧ V = V' from fun V => by rw [← Dl.t_eq]; exact place_any d.tick 1099511627777 V (by decide) (by decide))
          have td : IntKind.i64.wrap (yd + 1) = yd + 1 := by
            have h1 := HG0.out.d1
            have h0 := HG0.out.d0
            have h2 := HMX.out
            have h3 := HLN.out
            have h4 := HLT.out
            rw [IntKind.wrap_i64]; omega
          clear hyd hyl hyh
          go_wp2_with fail
          refine (HPL.out _).mono ?_
          rintro r0 w9 ⟨rfl, rfl⟩
          by_cases hkk : d.k = k
          · have e1 : ((d.k : Int) != (k : Int)) = false := by simp; omega
            have HST2 := Lib.hid (show hearL (l.take (i + 1)) k = dealLn y d.price (d.t / 64 % 8) from by rw [HST.out, if_pos hkk.symm, hkk, HY.out])
            obtain ⟨tt, htt⟩ : ∃ tt, tt = d.t := ⟨_, rfl⟩
            have ht : tt ≤ 1099511627776 := by rw [htt]; exact Dl.t_le d
            rw [← htt] at HST2 HPT
            clear htt
            obtain ⟨hh, hhe⟩ : ∃ hh, hh = tt / 64 % 8 := ⟨_, rfl⟩
            have i8 : (hh : Int) < 8 := by omega
            have hh8 : hh < 8 := by omega
            rw [← hhe] at HST2
            obtain ⟨p, hp⟩ : ∃ p, p = d.price := ⟨_, rfl⟩
            rw [← hp] at HST2 c1
            have f0 := HC.out.frozen hh
            obtain ⟨u0, hu0⟩ := HC.out.ex hh8
            have HH8 := Lib.hid hh8
            have HFIN := Lib.hid (show (hearL (l.take (i + 1)) k).deals = yd + 1 ∧ (hearL (l.take (i + 1)) k).low = (if yd = 0 then (p : Int) else if (p : Int) < yl then (p : Int) else yl) ∧ (hearL (l.take (i + 1)) k).high = (if yd = 0 then (p : Int) else if yh < (p : Int) then (p : Int) else yh) ∧
              Cl (wb.setCell ⟨mh, hh, none⟩ (.bool true)) mh 60 8 (hasF (hearL (l.take (i + 1)) k)) ∧ Below mh w6 (wb.setCell ⟨mh, hh, none⟩ (.bool true)) from by
              refine ⟨?_, ?_, ?_, ?_, ?_⟩
              · rw [HST2.out, dl_deals, HYD.out.1]
              · rw [HST2.out, dl_low, HYD.out.1, HYD.out.2.1]
              · rw [HST2.out, dl_high, HYD.out.1, HYD.out.2.2]
              · rw [HST2.out]
                exact (HC.out.setC HH8.out (.bool true)).mono fun q v e => hasF_set HH8.out (fun q => dl_has y p hh q) q v e
              · exact HBB.out.setCell (Nat.le_refl _) _)
            have HEH := Lib.hid (tick_ix tt ht hh hhe)
            clear hkk hhe hp hh8
            have HU0 := Lib.hid hu0
            by_cases h0 : yd = 0
            · have b0 : (yd == 0) = true := by rw [beq_iff_eq]; exact h0
              have H0 := Lib.hid h0
              clear h0
              go_wp2_with fail
              refine (HPT.out _).mono ?_
              rintro r0 w9 ⟨rfl, rfl⟩
              have eh := HEH.out.1
              go_wp2
              go_roundw
              case rel => exact ⟨i + 1, HLT.out, by go_num, by rw [HFIN.out.1], by rw [HFIN.out.2.1, if_pos H0.out], by rw [HFIN.out.2.2.1, if_pos H0.out], HFIN.out.2.2.2.1, HFIN.out.2.2.2.2⟩
              case measure => clear eh; have := HLT.out; simp [intOf]; omega
            · have b0 : (yd == 0) = false := by rw [beq_eq_false_iff_ne]; exact h0
              have H0 := Lib.hid h0
              clear h0
              by_cases h1 : (p : Int) < yl
              · have b1 : decide ((p : Int) < yl) = true := by simp; omega
                have H1 := Lib.hid h1
                clear h1
                by_cases h2 : yh < (p : Int)
                · have b2 : decide ((p : Int) > yh) = true := by simp; omega
                  have H2 := Lib.hid h2
                  clear h2
                  go_wp2_with fail
                  refine (HPT.out _).mono ?_
                  rintro r0 w9 ⟨rfl, rfl⟩
                  have eh := HEH.out.1
                  go_wp2
                  go_roundw
                  case rel => exact ⟨i + 1, HLT.out, by go_num, by rw [HFIN.out.1], by rw [HFIN.out.2.1, if_neg H0.out, if_pos H1.out], by rw [HFIN.out.2.2.1, if_neg H0.out, if_pos H2.out], HFIN.out.2.2.2.1, HFIN.out.2.2.2.2⟩
                  case measure => clear eh; have := HLT.out; simp [intOf]; omega
                · have b2 : decide ((p : Int) > yh) = false := by simp; omega
                  have H2 := Lib.hid h2
                  clear h2
                  go_wp2_with fail
                  refine (HPT.out _).mono ?_
                  rintro r0 w9 ⟨rfl, rfl⟩
                  have eh := HEH.out.1
                  go_wp2
                  go_roundw
                  case rel => exact ⟨i + 1, HLT.out, by go_num, by rw [HFIN.out.1], by rw [HFIN.out.2.1, if_neg H0.out, if_pos H1.out], by rw [HFIN.out.2.2.1, if_neg H0.out, if_neg (show ¬ yh < (p : Int) by have := H2.out; omega)], HFIN.out.2.2.2.1, HFIN.out.2.2.2.2⟩
                  case measure => clear eh; have := HLT.out; simp [intOf]; omega
              · have b1 : decide ((p : Int) < yl) = false := by simp; omega
                have H1 := Lib.hid h1
                clear h1
                by_cases h2 : yh < (p : Int)
                · have b2 : decide ((p : Int) > yh) = true := by simp; omega
                  have H2 := Lib.hid h2
                  clear h2
                  go_wp2_with fail
                  refine (HPT.out _).mono ?_
                  rintro r0 w9 ⟨rfl, rfl⟩
                  have eh := HEH.out.1
                  go_wp2
                  go_roundw
                  case rel => exact ⟨i + 1, HLT.out, by go_num, by rw [HFIN.out.1], by rw [HFIN.out.2.1, if_neg H0.out, if_neg (show ¬ (p : Int) < yl by have := H1.out; omega)], by rw [HFIN.out.2.2.1, if_neg H0.out, if_pos H2.out], HFIN.out.2.2.2.1, HFIN.out.2.2.2.2⟩
                  case measure => clear eh; have := HLT.out; simp [intOf]; omega
                · have b2 : decide ((p : Int) > yh) = false := by simp; omega
                  have H2 := Lib.hid h2
                  clear h2
                  go_wp2_with fail
                  refine (HPT.out _).mono ?_
                  rintro r0 w9 ⟨rfl, rfl⟩
                  have eh := HEH.out.1
                  go_wp2
                  go_roundw
                  case rel => exact ⟨i + 1, HLT.out, by go_num, by rw [HFIN.out.1], by rw [HFIN.out.2.1, if_neg H0.out, if_neg (show ¬ (p : Int) < yl by have := H1.out; omega)], by rw [HFIN.out.2.2.1, if_neg H0.out, if_neg (show ¬ yh < (p : Int) by have := H2.out; omega)], HFIN.out.2.2.2.1, HFIN.out.2.2.2.2⟩
                  case measure => clear eh; have := HLT.out; simp [intOf]; omega
          · have e1 : ((d.k : Int) != (k : Int)) = true := by rw [bne_iff_ne]; omega
            have HST2 := Lib.hid (show hearL (l.take (i + 1)) k = y from by rw [HST.out, if_neg (fun e => hkk e.symm), HY.out])
            clear hkk
            go_wp2
            go_roundw
            case rel => exact ⟨i + 1, HLT.out, by go_num, by rw [HST2.out, HYD.out.1], by rw [HST2.out, HYD.out.2.1], by rw [HST2.out, HYD.out.2.2], by rw [HST2.out]; exact HC.out, HBB.out⟩
            case measure => have := HLT.out; simp [intOf]; omega
        · have t1 : decide ((i : Int) < (l.length : Int)) = false := by simp; omega
          obtain rfl : i = l.length := by omega
          have eX : hearL (l.take l.length) k = X := by rw [List.take_length, ← HLL.out, HX.out]
          rw [eX] at HC
          rw [eX, HBT.out.lo, HBT.out.hi, ← HXD.out.1]
          have HW := Lib.hid (show Below w6.heap.size w6 wb from by rw [← HMH.out]; exact HBB.out)
          have HRW := Lib.hid (row_kept HR6.out HW.out)
          have HCW := Lib.hid (show ∀ t, t < 8 → wb.cell? ⟨md, t, none⟩ = some (.float .f32 (X.day t)) from fun t ht => below_cell HW.out (HC6.out t ht))
          have HIW := Lib.hid (HI6.out.kept HW.out)
          clear eX hlt hi
          obtain ⟨fa, hfa⟩ : ∃ z, z = fuW lo := ⟨_, rfl⟩
          obtain ⟨fb, hfb⟩ : ∃ z, z = fuW hi' := ⟨_, rfl⟩
          have HLO := Lib.hid (show ∀ V, Calls Try.prog 22 #[.int .u64 (lo : Int)] V fun r w' => r = .returned (.float .f32 fa) ∧ V = w' from by rw [hfa]; exact fun V => n03.pfu_any lo V)
          have HHI := Lib.hid (show ∀ V, Calls Try.prog 22 #[.int .u64 (hi' : Int)] V fun r w' => r = .returned (.float .f32 fb) ∧ V = w' from by rw [hfb]; exact fun V => n03.pfu_any hi' V)
          have hfin : fb < 2139095040 := by rw [hfb]; exact fuW_fin HBT.out.mx
          have hab : fa ≤ fb := by rw [hfa, hfb]; exact fl.fuW_mono HBT.out.le
          have havg : fa ≤ xa ∧ xa ≤ fb := by rw [hfa, hfb, HXD.out.2.1]; exact HBT.out.avg
          obtain ⟨sb, hsb⟩ : ∃ z, z = fl.N (fl.V fb - fl.V fa) := ⟨_, rfl⟩
          have hsf : sb < 2139095040 := by rw [hsb]; exact spr_fin hfin
          have hspr : xs ≤ sb := by rw [hsb, hfa, hfb, HXD.out.2.2]; exact HBT.out.spr
          have hday : ∀ q, X.has q = true → fa ≤ X.day q ∧ X.day q ≤ fb := by rw [hfa, hfb]; exact HBT.out.day
          have HDY := Lib.hid (show ∀ q, X.has q = true → (FloatKind.f32.format.order (X.day q) fa == some Ordering.gt || FloatKind.f32.format.order (X.day q) fa == some Ordering.eq) = true ∧ (FloatKind.f32.format.order (X.day q) fb == some Ordering.lt || FloatKind.f32.format.order (X.day q) fb == some Ordering.eq) = true from fun q hq => by
            have h := hday q hq
            exact ⟨ge_b (by omega) h.1, le_b hfin h.2⟩)
          have g1 := ge_b (r := xa) (s := fa) (by omega) havg.1
          have g2 := le_b (r := xa) (s := fb) hfin havg.2
          have g3 := ge_b (r := xs) (s := 0) (by omega) (Nat.zero_le _)
          have g4 := le_b (r := xs) (s := sb) hsf hspr
          have n0 : (xd != xd) = false := by simp
          have n1 : ((lo : Int) != (lo : Int)) = false := by simp
          have n2 : ((hi' : Int) != (hi' : Int)) = false := by simp
          have HSUB := Lib.hid (show ∀ W, Qt wb W → Calls Try.prog 23 #[.float .f32 fb, .float .f32 fa] W fun r W' => r = .returned (.float .f32 sb) ∧ Qt wb W' from fun W hW => (n03.psub_any fb fa W).mono fun r W' h => ⟨by rw [h.1, sub_b hfin hab, hsb], hW.trans h.2⟩)
          have HQ := Lib.hid (show ∀ W, Qt wb W → W.cell? ⟨mq, 0, none⟩ = some (.int .i64 xd) ∧ W.cell? ⟨mq, 1, none⟩ = some (.float .f32 xa) ∧ W.cell? ⟨mq, 2, none⟩ = some (.float .f32 xs) ∧ W.cell? ⟨mq, 3, none⟩ = some (.int .u64 (lo : Int)) ∧ W.cell? ⟨mq, 4, none⟩ = some (.int .u64 (hi' : Int)) from fun W hW => by
            have hc : ∀ i v, (#[Value.int .i64 xd, .float .f32 xa, .float .f32 xs, .int .u64 (lo : Int), .int .u64 (hi' : Int)])[i]? = some v → W.cell? ⟨mq, i, none⟩ = some v := fun i v h => by rw [hW.cell, cell_of_row _ _ _ _ _ _ HRW.out]; exact h
            exact ⟨hc 0 _ rfl, hc 1 _ rfl, hc 2 _ rfl, hc 3 _ rfl, hc 4 _ rfl⟩)
          clear hfa hfb hfin hab havg hsb hsf hspr hday
          go_wp2_with fail
          refine (HLO.out _).mono ?_
          rintro r0 w9 ⟨rfl, rfl⟩
          go_wp2_with fail
          refine (HHI.out _).mono ?_
          rintro r0 w9 ⟨rfl, rfl⟩
          go_upto_region 28 with fail
          refine wp_region_inv2 43 (fun W => Qt wb W) (by kernel_rfl) (by kernel_rfl) (fun m => ⟨m, rfl⟩) ?_
          simp only [List.take_succ_cons, List.take_zero]
          iterate 43
            first
              | (apply wpInv_skip
                 · rfl)
              | (apply wpInv_cons
                 · rfl
                 · intro Wx hw
                   obtain ⟨j0, j1, j2, j3, j4⟩ := HQ.out Wx hw
                   first
                     | (go_simp; exact ⟨hw, rfl⟩)
                     | (go_simp; show Calls _ _ _ _ _; with_reducible exact HSUB.out _ hw))
            simp only [Act.put, List.setIfInBounds_toArray, List.set_cons_zero, List.set_cons_succ]
          refine wpInv_nil fun V3 hV => ?_
          have HV3 := Lib.hid hV
          clear hV
          simp only [List.drop_succ_cons, List.drop_zero]
          have HCV := Lib.hid (show ∀ W, Qt wb W → ∀ q, q < 8 → W.cell? ⟨mh, q, none⟩ = some (.bool (X.has q)) ∧ W.cell? ⟨md, q, none⟩ = some (.float .f32 (X.day q)) from fun W hW q hq => by
            rw [hW.cell, hW.cell]
            exact ⟨HC.out.cell (by unfold hasF; rw [if_pos hq]), HCW.out q hq⟩)
          clear g1 g2 g3 g4 n0 n1 n2 HSUB HQ
          have z0 : (FloatKind.f32.format.order 0 0 != some Ordering.eq) = false := by rw [fl.order_zero]; rfl
          go_wp2
          go_loopw [17] (fun s17 V => ∃ h : Nat, h ≤ 8 ∧ s17 = .int .i64 h ∧ Qt wb V) (fun i _ => 8 - (intOf i).toNat)
          case atStart => exact ⟨0, Nat.zero_le _, rfl, HV3.out⟩
          case round =>
            obtain ⟨h, hh, rfl, hq⟩ := hrel
            have HQT := Lib.hid hq
            clear hq
            by_cases hlt : h < 8
            · have t0 : decide ((h : Int) < 8) = true := by simp; omega
              have ih : (h : Int) < 8 := by omega
              have th : IntKind.i64.wrap ((h : Int) + 1) = ((h + 1 : Nat) : Int) := by rw [IntKind.wrap_i64]; omega
              obtain ⟨c1, c2⟩ := HCV.out _ HQT.out h hlt
              have HLT := Lib.hid hlt
              have HD1 := Lib.hid (HDY.out h)
              have HD0 := Lib.hid (HBT.out.day0 h)
              cases hs : X.has h with
              | true =>
                rw [hs] at c1
                obtain ⟨y1, y2⟩ := HD1.out hs
                obtain ⟨d, hd⟩ : ∃ d, d = X.day h := ⟨_, rfl⟩
                rw [← hd] at c2 y1 y2
                clear hd hs hlt hh
                go_wp2
                go_roundw
                case rel => exact ⟨h + 1, HLT.out, by go_num, HQT.out⟩
                case measure => have := HLT.out; simp [intOf]; omega
              | false =>
                rw [hs] at c1
                rw [HD0.out hs] at c2
                clear hs hlt hh
                go_wp2
                go_roundw
                case rel => exact ⟨h + 1, HLT.out, by go_num, HQT.out⟩
                case measure => have := HLT.out; simp [intOf]; omega
            · have t0 : decide ((h : Int) < 8) = false := by simp; omega
              clear hlt hh
              go_wp2
              go_roundw
              case rel => exact ⟨k + 1, HK.out, by go_num, HIW.out.kept (HQT.out.below _), HBW.out.trans (HQT.out.below _)⟩
              case measure => have := HK.out; simp [intOf]; omega
    · have t0 : decide ((k : Int) < 16) = false := by simp; omega
      go_wp2
      go_ret
      exact ⟨rfl, HB.out⟩
theorem own : ownKnob Try.prog.godebug = none := by kernel_rfl
theorem laidOut : laidOutB Try.prog = true := by kernel_rfl
set_option maxRecDepth 100000 in
theorem lifted (os : Os) (started : os.Started) (H : Type) (enc : TypeId × Value → H) :
    ReturnsInHanded {} Try.checked os 5 .any (Rows.indexBetweenSpec.pre6 enc Try.prog Try.f5 Rows.indexBetweenRow.domain false) (Rows.indexBetweenSpec.post enc Try.prog Try.f5 false true false false) := by
  refine returnsInHanded_of_change_sized (C := Try.checked) own started (by kernel_rfl) Try.func5
    (ChangeSpec.witness6 (enc := enc) (C := Try.checked) false ⟨#[], #[.slice none 0 0], []⟩ 8 (by kernel_rfl) (by kernel_rfl) (by kernel_rfl) (by kernel_rfl)) ?_
  intro W base args ds gs before hval0 hW hcnd hsz0 _
  have hsz : (DataW.weightsEach Try.prog (Try.f5.params.toList ++ Rows.indexBetweenSpec.plain.varTypes Try.prog) (ds ++ gs)).all (· ≤ reachBytes) = true := hsz0
  clear hsz0
  have hval : ∀ (j : Nat) t v, Try.f5.params[j]? = some t → args[j]? = some v → Value.okWide Try.prog W .any base t v := hval0
  have hW' := hW
  obtain ⟨p, q, hA0, hV, rfl, hfz, hnd⟩ := hW
  have hA : DataW.TrodAll enc Try.prog W 0 (fun _ => true) true Try.f5.params.toList args.toList ds p := hA0
  rw [Try.params5] at hA hval hsz
  obtain ⟨v0, vs0, d0, ds0, p0, q0, hargs, rfl, rfl, h0, r0⟩ := trodAll_cons hA
  obtain ⟨rfl, rfl, rfl⟩ := trodAll_nil r0
  obtain rfl : args = #[v0] := by cases args; simp_all
  obtain ⟨rfl, rfl⟩ := trodVars_none hV
  have k0 := h0
  have lt0 : ∀ x ∈ p0, x.block < W.heap.size := by obtain ⟨m, hm⟩ := k0; exact DataW.trod_lt m _ _ _ hm
  obtain ⟨a0, cap0, l0, rfl, n0⟩ := open_dls (hval 0 22 v0 rfl rfl) h0 hsz (j := 0) rfl rfl
  clear hA0 hval0
  refine (walk a0 cap0 l0 W n0).mono fun e W' ⟨he, bel⟩ => ?_
  subst he
  exact ⟨_, rfl, _, _, _, [], _, [], hW', trodAll_mk1 (shut_bool Try.underlying4 _), (trodAll_cons_mk (Below.trod laidOut (by kernel_rfl) (of_decide_eq_true (by kernel_rfl)) k0 bel lt0) trodAll_mk0), rfl, bel.frame _, fun h => by cases h⟩
theorem over : Rows.indexBetweenRow.holds Try.pinned (OpenSpec.ofChange Rows.indexBetweenSpec) :=
  OpenClaim.holds_of_wide 5 Try.f5 rfl rfl rfl rfl rfl rfl rfl ⟨rfl, rfl, rfl, rfl, rfl⟩ rfl rfl rfl rfl rfl (by kernel_rfl) Try.func5 (by kernel_rfl)
    (of_decide_eq_true (by kernel_rfl)) (by unfold Func.isWrapper; first | (rw [if_pos (by decide +kernel)]; kernel_rfl) | (rw [if_neg (by decide +kernel)]; exact ⟨rfl, rfl⟩))
    (fun os started H enc _ => lifted os started H enc)
theorem proved : Rows.IndexBetweenSaid := over
#print axioms proved
end Go.Proofs.Ythadfopkacbnlaa.lawIndexBetween
