/-
  Nobody is worse off; the price parts those who deal from those who don't; at no other price would more deal; no other pairs gain more.
  No condition beyond the statement's own.
-/
import Derived.Test.YtbggibdldadpiaaKc
import Derived.Test.YtbggibdldadpiaaKa
import Derived.Deep.RegionHeld3
namespace Go.Proofs.Ytbggibdldadpiaa.lawCallBest
open Go.RowKit Go.K Go.ChangeShapes Go.WideShapes Go.ChangeAt
set_option linter.unusedVariables false
set_option linter.unusedSimpArgs false
theorem gI_row (d : Nat → Nat) (n i : Nat) (h : i < n) : gI (rowL d n) i = (d i : Int) := by
  rw [gI_get _ _ (by rw [rowL_len]; exact h)]
  simp [rowL]
theorem placed_row {up : Bool} {l : List (BitVec 64)} {d : Nat → Nat} {k : Nat} (h : RankZ up l d) (hk : k ≤ l.length) : PlacedP (gI (rowL d k)) (rowL d k).length l.length := by
  rw [rowL_len]
  refine ⟨fun i hi => ?_, fun i j hi hj e => ?_⟩
  · rw [gI_row d k i hi]; have := rankz_lt h (show i < l.length by omega); omega
  · rw [gI_row d k i hi, gI_row d k j hj] at e
    exact rank_inj h (by omega) (by omega) (by omega)
theorem mem_row (d : Nat → Nat) (n i : Nat) : ((i : Int) ∈ rowL d n) ↔ ∃ q, q < n ∧ d q = i := by
  unfold rowL
  rw [List.mem_map]
  constructor
  · rintro ⟨q, hq, e⟩; exact ⟨q, List.mem_range.1 hq, by omega⟩
  · rintro ⟨q, hq, e⟩; exact ⟨q, List.mem_range.2 hq, by rw [e]⟩
theorem price_ask {xs ys : List (BitVec 64)} {da db : Nat → Nat} {k : Nat} (ha : RankZ true xs da) (hb : RankZ false ys db) (hk : KV xs ys da db k) (i : Nat) (hi : i < xs.length) :
    ((i : Int) ∈ rowL da k → lq xs i ≤ priceV xs ys da db k) ∧ (¬ (i : Int) ∈ rowL da k → priceV xs ys da db k ≤ lq xs i) := by
  obtain ⟨p, hp, e⟩ := rank_has ha i hi
  rw [mem_row]
  constructor
  · rintro ⟨q, hq, e2⟩
    rw [← e2]; exact ((parts_price ha hb hk (by omega)).1 q hq).1
  · intro hn
    rcases Nat.eq_zero_or_pos k with h0 | h0
    · unfold priceV; rw [if_pos h0]; exact Nat.zero_le _
    · rw [← e]; exact (parts_price ha hb hk h0).2.1 p (by
        rcases Nat.lt_or_ge p k with c | c
        · exact absurd ⟨p, c, e⟩ hn
        · exact c) hp
theorem price_bid {xs ys : List (BitVec 64)} {da db : Nat → Nat} {k : Nat} (ha : RankZ true xs da) (hb : RankZ false ys db) (hk : KV xs ys da db k) (i : Nat) (hi : i < ys.length) :
    ((i : Int) ∈ rowL db k → priceV xs ys da db k ≤ lq ys i) ∧ (¬ (i : Int) ∈ rowL db k → 0 < k → lq ys i ≤ priceV xs ys da db k) := by
  obtain ⟨p, hp, e⟩ := rank_has hb i hi
  rw [mem_row]
  constructor
  · rintro ⟨q, hq, e2⟩
    rw [← e2]; exact ((parts_price ha hb hk (by omega)).1 q hq).2
  · intro hn h0
    rw [← e]; exact (parts_price ha hb hk h0).2.2 p (by
        rcases Nat.lt_or_ge p k with c | c
        · exact absurd ⟨p, c, e⟩ hn
        · exact c) hp
set_option maxRecDepth 100000 in
set_option maxHeartbeats 4000000 in
theorem walk (a : Option Addr) (c : Nat) (xs : List (BitVec 64)) (b : Option Addr) (d : Nat) (ys : List (BitVec 64)) (price : BitVec 64) (xa : Option Addr) (xc : Nat) (x : List Int) (ya : Option Addr) (yc : Nat) (y : List Int) (w : World)
    (hs1 : Sl w a (vQ xs)) (hn1 : xs.length ≤ c) (hm1 : c ≤ 17592186043904) (hz1 : a = none → xs.length = 0 ∧ c = 0) (hs2 : Sl w b (vQ ys)) (hn2 : ys.length ≤ d) (hm2 : d ≤ 17592186043904) (hz2 : b = none → ys.length = 0 ∧ d = 0)
    (hs3 : Sl w xa (vI x)) (hn3 : x.length ≤ xc) (hm3 : xc ≤ 17592186043904) (hz3 : xa = none → x.length = 0 ∧ xc = 0) (hs4 : Sl w ya (vI y)) (hn4 : y.length ≤ yc) (hm4 : yc ≤ 17592186043904) (hz4 : ya = none → y.length = 0 ∧ yc = 0) :
    Calls Try.prog 3 #[.slice a xs.length c, .slice b ys.length d, .int .u64 (U64 price), .slice xa x.length xc, .slice ya y.length yc] w fun e w' => e = .returned (.bool true) ∧ Below w.heap.size w w' := by
  obtain ⟨pn, hpn⟩ : ∃ pn, pn = price.toNat := ⟨_, rfl⟩
  rw [show U64 price = (pn : Int) by rw [hpn]; rfl]
  clear hpn
  have HAW := Lib.hid (awake_any w)
  by_cases g1 : 3000 < xs.length
  · have t1 : decide (3000 < (xs.length : Int)) = true := decide_eq_true (by omega)
    clear hn1 hm1 hn2 hm2 hn3 hm3 hn4 hm4 g1
    go_enter Try.func3, Try.ntmps3
    go_wp2_with fail
    refine HAW.out.mono ?_
    rintro e w1 ⟨rfl, hb1⟩
    go_wp2
    go_ret
    exact ⟨rfl, hb1⟩
  have t1 : decide (3000 < (xs.length : Int)) = false := decide_eq_false (by omega)
  by_cases g2 : 3000 < ys.length
  · have t2 : decide (3000 < (ys.length : Int)) = true := decide_eq_true (by omega)
    clear hn1 hm1 hn2 hm2 hn3 hm3 hn4 hm4 g1 g2
    go_enter Try.func3, Try.ntmps3
    go_wp2_with fail
    refine HAW.out.mono ?_
    rintro e w1 ⟨rfl, hb1⟩
    go_wp2
    go_ret
    exact ⟨rfl, hb1⟩
  have t2 : decide (3000 < (ys.length : Int)) = false := decide_eq_false (by omega)
  have HN := Lib.hid (show xs.length ≤ 3000 ∧ ys.length ≤ 3000 ∧ x.length ≤ 17592186043904 ∧ y.length ≤ 17592186043904 by omega)
  have HLX := Lib.hid (fun V (hV : Below w.heap.size w V) => lent_any a c xs V (by omega) hz1 (hs1.kept hV))
  have HLY := Lib.hid (fun V (hV : Below w.heap.size w V) => lent_any b d ys V (by omega) hz2 (hs2.kept hV))
  have HS1 := Lib.hid hs1
  have HS2 := Lib.hid hs2
  have HS3 := Lib.hid hs3
  have HS4 := Lib.hid hs4
  clear hs1 hn1 hm1 hz1 hs2 hn2 hm2 hz2 hs3 hn3 hm3 hz3 hs4 hn4 hm4 hz4 g1 g2
  go_enter Try.func3, Try.ntmps3
  go_wp2_with fail
  refine HAW.out.mono ?_
  rintro e w0 ⟨rfl, hb0⟩
  have HB0 := Lib.hid hb0
  clear hb0
  go_wp2_with fail
  refine (HLX.out _ HB0.out).mono ?_
  rintro e w1 ⟨g9, c9, rfl, hg9, hl9, hb1⟩
  have HL9 := Lib.hid hl9
  have HB1 := Lib.hid (HB0.out.trans (hb1.mono HB0.out.size))
  clear hl9 hb1 hg9
  go_wp2_with fail
  refine (HLY.out _ HB1.out).mono ?_
  rintro e w2 ⟨g10, c10, rfl, hg10, hl10, hb2⟩
  have K8 := Lib.hid (clear_any xs ys (some ⟨g9, 0, none⟩) (some ⟨g10, 0, none⟩) c9 c10 w2 (by have := HN.out; omega) (by have := HN.out; omega) (HL9.out.kept hb2).sl hl10.sl)
  have HB2 := Lib.hid (HB1.out.trans (hb2.mono HB1.out.size))
  clear hl10 hb2 hg10
  go_wp2_with fail
  refine K8.out.mono ?_
  rintro e w3 ⟨v3, rfl, ⟨da, db, k, hza, hzb, hk, hd⟩, hb⟩
  obtain ⟨a1, c1, a2, c2, rfl, h1, h2⟩ := hd.parts
  have HZA := Lib.hid hza
  have HZB := Lib.hid hzb
  have HK := Lib.hid hk
  have D1 := Lib.hid h1
  have D2 := Lib.hid h2
  have HB3 := Lib.hid (HB2.out.trans (hb.mono HB2.out.size))
  clear hza hzb hk hd h1 h2 hb K8
  obtain ⟨pr, hpr⟩ : ∃ pr, pr = priceV xs ys da db k := ⟨_, rfl⟩
  have HPR := Lib.hid hpr
  rw [← hpr]
  clear hpr
  go_upto_region 6 with ((with_reducible refine at_store_op ?_); refine wpList_store_lit 27 w3.heap.size 0 (dlA a1 c1 a2 c2 k pr pr) (.agg (dlA a1 c1 a2 c2 k pr pr)) (cur := #[.slice none 0 0, .slice none 0 0, .int .u64 0, .int .u64 0]) (t := 27) (alloc_at rfl) sz27 (Nat.le_of_ble_eq_true rfl) rfl rfl ?_ ?_ ?_; exact rfl; exact rfl; intro w4 hp4)
  have hb : Below w3.heap.size w3 w4 := hp4.below ((Below.refl _ _).alloc (Nat.le_refl _) _) (by simp) (Nat.le_refl _)
  have RC := Lib.hid hp4.at'
  have D1 := Lib.hid (D1.out.kept hb)
  have D2 := Lib.hid (D2.out.kept hb)
  have HB4 := Lib.hid (HB3.out.trans (hb.mono HB3.out.size))
  clear hb hp4 HB3 HB2 HB1 HB0 HL9 HLX HLY HAW
  obtain ⟨bd, hbd⟩ : ∃ bd, bd = w3.heap.size := ⟨_, rfl⟩
  rw [← hbd] at RC ⊢
  clear hbd
  have CEL := Lib.hid (show ∀ V, Below w4.heap.size w4 V → V.cell? ⟨bd, 0, none⟩ = some (.slice a1 k c1) ∧ V.cell? ⟨bd, 1, none⟩ = some (.slice a2 k c2) ∧ V.cell? ⟨bd, 2, none⟩ = some (.int .u64 pr) ∧ V.cell? ⟨bd, 3, none⟩ = some (.int .u64 pr) from fun V h => by
    have r1 := row_kept RC.out h
    refine ⟨?_, ?_, ?_, ?_⟩ <;> (rw [cell_of_row _ _ _ _ _ _ r1]; rfl))
  have HK3 := Lib.hid (show k ≤ xs.length ∧ k ≤ ys.length ∧ k ≤ 3000 from ⟨HK.out.1, HK.out.2.1, by have := HK.out.1; have := HN.out; omega⟩)
  have KP1 := Lib.hid (show Calls Try.prog 10 #[.slice a1 k c1, .int .i64 xs.length] w4 fun r w' => r = .returned (.bool true) ∧ Below w4.heap.size w4 w' from by
    have K := placed_any a1 c1 (rowL da k) xs.length w4 (by rw [rowL_len]; have := HK3.out; omega) (by have := HN.out; omega) (by rw [← rowN_vI]; exact D1.out)
    rw [rowL_len] at K
    refine K.mono ?_
    rintro r w' ⟨bv, rfl, hbv, hb⟩
    have := hbv.2 (by have h := placed_row HZA.out HK3.out.1; rw [rowL_len] at h; exact h)
    rw [this]; exact ⟨rfl, hb⟩)
  obtain ⟨x0, x1, x2, x3⟩ := CEL.out w4 (Below.refl _ _)
  have kk : ((k : Int) != (k : Int)) = false := by simp
  have pp : ((pr : Int) != (pr : Int)) = false := by simp
  go_wp2_with fail
  refine KP1.out.mono ?_
  rintro e w5 ⟨rfl, hb5⟩
  have KP2 := Lib.hid (show Calls Try.prog 10 #[.slice a2 k c2, .int .i64 ys.length] w5 fun r w' => r = .returned (.bool true) ∧ Below w5.heap.size w5 w' from by
    have K := placed_any a2 c2 (rowL db k) ys.length w5 (by rw [rowL_len]; have := HK3.out; omega) (by have := HN.out; omega) (by rw [← rowN_vI]; exact D2.out.kept hb5)
    rw [rowL_len] at K
    refine K.mono ?_
    rintro r w' ⟨bv, rfl, hbv, hb⟩
    have := hbv.2 (by have h := placed_row HZB.out HK3.out.2.1; rw [rowL_len] at h; exact h)
    rw [this]; exact ⟨rfl, hb⟩)
  obtain ⟨x0, x1, x2, x3⟩ := CEL.out w5 hb5
  have HB5 := Lib.hid hb5
  clear hb5 KP1
  go_wp2_with fail
  refine KP2.out.mono ?_
  rintro e w6 ⟨rfl, hb6⟩
  have HB6 := Lib.hid (HB5.out.trans (hb6.mono HB5.out.size))
  obtain ⟨x0, x1, x2, x3⟩ := CEL.out w6 HB6.out
  clear hb6 HB5 KP2
  go_wp2
  clear kk pp x0 x1 x2 x3
  go_loopw [12] (fun xi V => ∃ i : Nat, i ≤ xs.length ∧ xi = .int .i64 i ∧ Qt w6 V) (fun xi _ => xs.length - (intOf xi).toNat)
  case atStart => exact ⟨0, Nat.zero_le _, rfl, Qt.refl _⟩
  case round =>
    obtain ⟨i, hi, rfl, hq⟩ := hrel
    have HQ := Lib.hid hq
    clear hq
    by_cases hlt : i < xs.length
    · have t0 : decide ((i : Int) < (xs.length : Int)) = true := decide_eq_true (by omega)
      have t0n : decide (i < xs.length) = true := decide_eq_true hlt
      have i1 : (i : Int) < (xs.length : Int) := by omega
      have HBW := Lib.hid (HB6.out.trans ((HQ.out.below _).mono HB6.out.size))
      obtain ⟨ab, ao, hxa, z1⟩ := vQ_at (HS1.out.kept (HB4.out.trans (HBW.out.mono HB4.out.size))) i hlt
      subst hxa
      obtain ⟨x0, x1, x2, x3⟩ := CEL.out wr HBW.out
      have KA := Lib.hid (among_any a1 c1 (rowL da k) i wr (by rw [rowL_len]; have := HK3.out; omega) (by rw [← rowN_vI]; exact D1.out.kept HBW.out))
      rw [rowL_len] at KA
      have PRC := Lib.hid (price_ask HZA.out HZB.out HK.out i hlt)
      rw [← HPR.out] at PRC
      have w1 : IntKind.i64.wrap ((i : Int) + 1) = ((i + 1 : Nat) : Int) := by rw [IntKind.wrap_i64]; have := HN.out; omega
      obtain ⟨m, hm⟩ : ∃ m, m = decide ((i : Int) ∈ rowL da k) := ⟨_, rfl⟩
      rw [← hm] at KA
      have HM := Lib.hid hm
      have HI := Lib.hid hlt
      clear hm hlt hi
      generalize lq xs i = v at *
      cases m
      case true =>
        have hv := PRC.out.1 (of_decide_eq_true HM.out.symm)
        have s1 : decide ((pr : Int) < (v : Int)) = false := decide_eq_false (by omega)
        have s1n : decide (pr < v) = false := decide_eq_false (by omega)
        clear hv
        go_wp2_with (go_at_call 11; (with_reducible refine KA.out.mono ?_); rintro e w9 ⟨rfl, rfl⟩)
        go_quiet (fail)
        go_wp2
        go_roundw
        case rel => exact ⟨i + 1, HI.out, by go_num, HQ.out.trans (⟨_, rfl⟩ : Qt _ _)⟩
        case measure => have := HI.out; simp [intOf]; omega
      case false =>
        have hv := PRC.out.2 (of_decide_eq_false HM.out.symm)
        have s1 : decide ((v : Int) < (pr : Int)) = false := decide_eq_false (by omega)
        have s1n : decide (v < pr) = false := decide_eq_false (by omega)
        clear hv
        go_wp2_with (go_at_call 11; (with_reducible refine KA.out.mono ?_); rintro e w9 ⟨rfl, rfl⟩)
        go_quiet (fail)
        go_wp2
        go_roundw
        case rel => exact ⟨i + 1, HI.out, by go_num, HQ.out.trans (⟨_, rfl⟩ : Qt _ _)⟩
        case measure => have := HI.out; simp [intOf]; omega
    have t0 : decide ((i : Int) < (xs.length : Int)) = false := decide_eq_false (by omega)
    have t0n : decide (i < xs.length) = false := decide_eq_false hlt
    have HB6 := Lib.hid (HB6.out.trans ((HQ.out.below _).mono HB6.out.size))
    clear hlt hi HQ
    obtain ⟨w7, h⟩ : ∃ W, W = wr := ⟨_, rfl⟩
    subst h
    go_wp2
    go_loopw [14] (fun xi V => ∃ i : Nat, i ≤ ys.length ∧ xi = .int .i64 i ∧ Qt w7 V) (fun xi _ => ys.length - (intOf xi).toNat)
    case atStart => exact ⟨0, Nat.zero_le _, rfl, Qt.refl _⟩
    case round =>
      obtain ⟨i, hi, rfl, hq⟩ := hrel
      have HQ := Lib.hid hq
      clear hq
      by_cases hlt : i < ys.length
      · have t0 : decide ((i : Int) < (ys.length : Int)) = true := decide_eq_true (by omega)
        have t0n : decide (i < ys.length) = true := decide_eq_true hlt
        have i1 : (i : Int) < (ys.length : Int) := by omega
        have HBW := Lib.hid (HB6.out.trans ((HQ.out.below _).mono HB6.out.size))
        obtain ⟨ab, ao, hxa, z1⟩ := vQ_at (HS2.out.kept (HB4.out.trans (HBW.out.mono HB4.out.size))) i hlt
        subst hxa
        obtain ⟨x0, x1, x2, x3⟩ := CEL.out wr HBW.out
        have KA := Lib.hid (among_any a2 c2 (rowL db k) i wr (by rw [rowL_len]; have := HK3.out; omega) (by rw [← rowN_vI]; exact D2.out.kept HBW.out))
        rw [rowL_len] at KA
        have PRC := Lib.hid (price_bid HZA.out HZB.out HK.out i hlt)
        rw [← HPR.out] at PRC
        have w1 : IntKind.i64.wrap ((i : Int) + 1) = ((i + 1 : Nat) : Int) := by rw [IntKind.wrap_i64]; have := HN.out; omega
        obtain ⟨m, hm⟩ : ∃ m, m = decide ((i : Int) ∈ rowL db k) := ⟨_, rfl⟩
        rw [← hm] at KA
        have HM := Lib.hid hm
        have HI := Lib.hid hlt
        clear hm hlt hi
        generalize lq ys i = v at *
        cases m
        case true =>
          have hv := PRC.out.1 (of_decide_eq_true HM.out.symm)
          have s1 : decide ((v : Int) < (pr : Int)) = false := decide_eq_false (by omega)
          have s1n : decide (v < pr) = false := decide_eq_false (by omega)
          clear hv
          go_wp2_with (go_at_call 11; (with_reducible refine KA.out.mono ?_); rintro e w9 ⟨rfl, rfl⟩)
          go_quiet (fail)
          go_wp2
          go_roundw
          case rel => exact ⟨i + 1, HI.out, by go_num, HQ.out.trans (⟨_, rfl⟩ : Qt _ _)⟩
          case measure => have := HI.out; simp [intOf]; omega
        case false =>
          have hv := PRC.out.2 (of_decide_eq_false HM.out.symm)
          by_cases c1 : pr < v
          · have s1 : decide ((pr : Int) < (v : Int)) = true := decide_eq_true (by omega)
            have s1n : decide (pr < v) = true := decide_eq_true c1
            have k0 : ¬ 0 < k := fun h => by have := hv h; omega
            have s2 : decide (0 < (k : Int)) = false := decide_eq_false (by omega)
            have s2n : decide (0 < k) = false := decide_eq_false k0
            clear hv c1 k0
            go_wp2_with (go_at_call 11; (with_reducible refine KA.out.mono ?_); rintro e w9 ⟨rfl, rfl⟩)
            go_quiet (fail)
            go_wp2
            go_roundw
            case rel => exact ⟨i + 1, HI.out, by go_num, HQ.out.trans (⟨_, rfl⟩ : Qt _ _)⟩
            case measure => have := HI.out; simp [intOf]; omega
          · have s1 : decide ((pr : Int) < (v : Int)) = false := decide_eq_false (by omega)
            have s1n : decide (pr < v) = false := decide_eq_false c1
            clear hv c1
            go_wp2_with (go_at_call 11; (with_reducible refine KA.out.mono ?_); rintro e w9 ⟨rfl, rfl⟩)
            go_quiet (fail)
            go_wp2
            go_roundw
            case rel => exact ⟨i + 1, HI.out, by go_num, HQ.out.trans (⟨_, rfl⟩ : Qt _ _)⟩
            case measure => have := HI.out; simp [intOf]; omega
      have t0 : decide ((i : Int) < (ys.length : Int)) = false := decide_eq_false (by omega)
      have t0n : decide (i < ys.length) = false := decide_eq_false hlt
      have HB6 := Lib.hid (HB6.out.trans ((HQ.out.below _).mono HB6.out.size))
      clear hlt hi HQ
      obtain ⟨w8, h⟩ : ∃ W, W = wr := ⟨_, rfl⟩
      subst h
      have K12 := Lib.hid (show ∀ n, Calls Try.prog 12 #[.slice a xs.length c, .slice b ys.length d, .int .u64 pn] (w8.drewN n) fun r w' => r = .returned (.int .i64 (min (cLe xs pn xs.length) (cGe ys pn ys.length) : Nat)) ∧ w' = w8.drewN n from fun n =>
        have hh := HB4.out.trans ((HB6.out.trans (((Qt.drewN w8 n).below _).mono HB6.out.size)).mono HB4.out.size)
        deals_any a b c d xs ys pn (w8.drewN n) (by have := HN.out; omega) (by have := HN.out; omega) (HS1.out.kept hh) (HS2.out.kept hh))
      have HDL := deals_le HZA.out HZB.out HK.out pn
      generalize min (cLe xs pn xs.length) (cGe ys pn ys.length) = dn at *
      have s1 : decide ((k : Int) < (dn : Int)) = false := decide_eq_false (by omega)
      have s1n : decide (k < dn) = false := decide_eq_false (by omega)
      obtain ⟨x0, x1, x2, x3⟩ := CEL.out w8 HB6.out
      clear HDL
      go_wp2
      go_quiet ((go_at_call 12; exact Calls.quiet_of_same (K12.out _)))
      obtain ⟨w9, hw9⟩ : ∃ w9, w9 = w8.drewN nq := ⟨_, rfl⟩
      rw [← hw9]
      have HB9 := Lib.hid (show Below w4.heap.size w4 w9 by rw [hw9]; exact HB6.out.trans (((Qt.drewN w8 nq).below _).mono HB6.out.size))
      clear hw9 x0 x1 x2 x3 HB6 K12
      have KX := Lib.hid (placed_any xa xc x xs.length w9 HN.out.2.2.1 (by have := HN.out; omega) (HS3.out.kept (HB4.out.trans (HB9.out.mono HB4.out.size))))
      go_wp2_with fail
      refine KX.out.mono ?_
      rintro e w10 ⟨bx, rfl, hbx, hb10⟩
      have HB10 := Lib.hid (HB9.out.trans (hb10.mono HB9.out.size))
      have HBX := Lib.hid hbx
      clear hb10 hbx KX HB9
      cases bx
      case false =>
        go_wp2
        go_ret
        exact ⟨rfl, HB4.out.trans (HB10.out.mono HB4.out.size)⟩
      case true =>
      have KY := Lib.hid (placed_any ya yc y ys.length w10 HN.out.2.2.2 (by have := HN.out; omega) (HS4.out.kept (HB4.out.trans (HB10.out.mono HB4.out.size))))
      go_wp2_with fail
      refine KY.out.mono ?_
      rintro e w11 ⟨bx2, rfl, hby, hb11⟩
      have HB11 := Lib.hid (HB10.out.trans (hb11.mono HB10.out.size))
      have HBY := Lib.hid hby
      clear hb11 hby KY HB10
      cases bx2
      case false =>
        go_wp2
        go_ret
        exact ⟨rfl, HB4.out.trans (HB11.out.mono HB4.out.size)⟩
      case true =>
      have HBT := Lib.hid (gain_best HZA.out HZB.out HK.out (HBX.out.1 (by simp)) (HBY.out.1 (by simp)) (fun i hi => gI_row da k i hi) (fun i hi => gI_row db k i hi))
      have hbw : Below w4.heap.size w4 w11.drew := HB11.out.trans (((Qt.drewN w11 1).below _).mono HB11.out.size)
      have HBW := Lib.hid hbw
      have K13 := Lib.hid (show ∀ V, Below w4.heap.size w4 V → Calls Try.prog 13 #[.slice a xs.length c, .slice b ys.length d, .slice xa x.length xc, .slice ya y.length yc] V fun r w' => r = .returned (.pointer (some ⟨V.heap.size, 0, none⟩)) ∧ n01.IntAt w' V.heap.size ((gn xs ys (gI x) (gI y) (min x.length y.length) : Nat) : Int) ∧ Below V.heap.size V w' from fun V hV => by
        have hh := HB4.out.trans (hV.mono HB4.out.size)
        exact rgain_any xs ys x y a b xa ya c d xc yc V HN.out.2.2.1 HN.out.2.2.2 (by have := HN.out; omega) (by have := HN.out; omega) (HS1.out.kept hh) (HS2.out.kept hh) (HS3.out.kept hh) (HS4.out.kept hh))
      have K13d := Lib.hid (show ∀ V, Below w4.heap.size w4 V → Calls Try.prog 13 #[.slice a xs.length c, .slice b ys.length d, .slice a1 k c1, .slice a2 k c2] V fun r w' => r = .returned (.pointer (some ⟨V.heap.size, 0, none⟩)) ∧ n01.IntAt w' V.heap.size ((gn xs ys (gI (rowL da k)) (gI (rowL db k)) k : Nat) : Int) ∧ Below V.heap.size V w' from fun V hV => by
        have hh := HB4.out.trans (hV.mono HB4.out.size)
        have K := rgain_any xs ys (rowL da k) (rowL db k) a b a1 a2 c d c1 c2 V (by rw [rowL_len]; have := HK3.out; omega) (by rw [rowL_len]; have := HK3.out; omega) (by have := HN.out; omega) (by have := HN.out; omega) (HS1.out.kept hh) (HS2.out.kept hh) (by rw [← rowN_vI]; exact D1.out.kept hV) (by rw [← rowN_vI]; exact D2.out.kept hV)
        rw [rowL_len, rowL_len, Nat.min_self] at K
        exact K)
      have HG1 := Lib.hid (gn_lt xs ys (gI x) (gI y) (min x.length y.length))
      have HG2 := Lib.hid (gn_lt xs ys (gI (rowL da k)) (gI (rowL db k)) k)
      generalize gn xs ys (gI x) (gI y) (min x.length y.length) = G1 at *
      generalize gn xs ys (gI (rowL da k)) (gI (rowL db k)) k = G2 at *
      have HGB := Lib.hid (show G1 < 1000000000000000000000000000000000000000000 ∧ G2 < 1000000000000000000000000000000000000000000 by
        have h1 := HG1.out
        have h2 := HG2.out
        have h3 := Nat.mul_le_mul_right 18446744073709551616 (show min x.length y.length ≤ 17592186043904 by have := HN.out; omega)
        have h4 := Nat.mul_le_mul_right 18446744073709551616 (show k ≤ 17592186043904 by have := HK3.out; omega)
        omega)
      have HCM := Lib.hid (show n01.cmpI (G1 : Int) (G2 : Int) ≤ 0 by have := HBT.out; unfold n01.cmpI; split <;> (try split) <;> omega)
      have KC := Lib.hid (show ∀ V p1 p2, n01.IntAt V p1 (G1 : Int) → n01.IntAt V p2 (G2 : Int) → Calls Try.prog 14 #[.pointer (some ⟨p1, 0, none⟩), .pointer (some ⟨p2, 0, none⟩)] V fun e w' => e = .returned (.int .i64 (n01.cmpI (G1 : Int) (G2 : Int))) ∧ Qt V w' from fun V p1 p2 h1 h2 =>
        n01.cmp_any p1 p2 _ _ V h1 h2 (pw_bound _ (by have := HGB.out; omega)) (pw_bound _ (by have := HGB.out; omega)))
      generalize n01.cmpI (G1 : Int) (G2 : Int) = cz at *
      have s2 : decide (cz ≤ 0) = true := decide_eq_true HCM.out
      obtain ⟨x0, x1, x2, x3⟩ := CEL.out w11 HB11.out
      go_upto_region 24 with fail
      go_region_held3 (fun V => V.cell? ⟨bd, 0, none⟩ = some (.slice a1 k c1) ∧ V.cell? ⟨bd, 1, none⟩ = some (.slice a2 k c2)) (go_keep)
        ((first
          | (go_at_call 13; (with_reducible refine (K13.out _ hbw).mono ?_); rintro r1 y1 ⟨rfl, hi1, hb1⟩; have hc1 := hbw.trans (hb1.mono hbw.size); obtain ⟨u0, u1, u2, u3⟩ := CEL.out y1 hc1)
          | (go_at_call 13; (with_reducible refine (K13d.out _ hc1).mono ?_); rintro r2 y2 ⟨rfl, hi2, hb2⟩; have hc2 := hc1.trans (hb2.mono hc1.size); obtain ⟨v0, v1, v2, v3⟩ := CEL.out y2 hc2; have hi12 : n01.IntAt y2 w11.heap.size (G1 : Int) := hi1.kept hb2)
          | (go_at_call 14; (with_reducible refine (KC.out y2 w11.heap.size y1.heap.size hi12 hi2).mono ?_); rintro r3 y3 ⟨rfl, hq3⟩; have hc3 := hc2.trans ((hq3.below _).mono hc2.size); obtain ⟨z0, z1, z2, z3⟩ := CEL.out y3 hc3)))
      all_goals
        have HF := Lib.hid (HB4.out.trans (hc3.mono HB4.out.size))
        clear hbw hc1 hc2 hc3 hb1 hb2 hi1 hi2 hi12
        go_wp2
        go_ret
        exact ⟨rfl, HF.out⟩
theorem own : ownKnob Try.prog.godebug = none := by kernel_rfl
theorem laidOut : laidOutB Try.prog = true := by kernel_rfl
set_option maxRecDepth 100000 in
theorem lifted (os : Os) (started : os.Started) (H : Type) (enc : TypeId × Value → H) :
    ReturnsInHanded {} Try.checked os 3 .any (Rows.callBestSpec.pre6 enc Try.prog Try.f3 Rows.callBestRow.domain false) (Rows.callBestSpec.post enc Try.prog Try.f3 false true false false) := by
  refine returnsInHanded_of_change_sized (C := Try.checked) own started (by kernel_rfl) Try.func3
    (ChangeSpec.witness6 (enc := enc) (C := Try.checked) false ⟨#[], #[.slice none 0 0, .slice none 0 0, .int .u64 0, .slice none 0 0, .slice none 0 0], []⟩ 8 (by kernel_rfl) (by kernel_rfl) (by kernel_rfl) (by kernel_rfl)) ?_
  intro W base args ds gs before hval0 hW hcnd hsz0 _
  have hsz : (DataW.weightsEach Try.prog (Try.f3.params.toList ++ Rows.callBestSpec.plain.varTypes Try.prog) (ds ++ gs)).all (· ≤ reachBytes) = true := hsz0
  clear hsz0
  have hval : ∀ (j : Nat) t v, Try.f3.params[j]? = some t → args[j]? = some v → Value.okWide Try.prog W .any base t v := hval0
  have hW' := hW
  obtain ⟨p, q, hA0, hV, rfl, hfz, hnd⟩ := hW
  have hA : DataW.TrodAll enc Try.prog W 0 (fun _ => true) true Try.f3.params.toList args.toList ds p := hA0
  rw [Try.params3] at hA hval hsz
  obtain ⟨v0, vs0, d0, ds0, p0, q0, hargs, rfl, rfl, h0, r0⟩ := trodAll_cons hA
  obtain ⟨v1, vs1, d1, ds1, p1, q1, rfl, rfl, rfl, h1, r1⟩ := trodAll_cons r0
  obtain ⟨v2, vs2, d2, ds2, p2, q2, rfl, rfl, rfl, h2, r2⟩ := trodAll_cons r1
  obtain ⟨v3, vs3, d3, ds3, p3, q3, rfl, rfl, rfl, h3, r3⟩ := trodAll_cons r2
  obtain ⟨v4, vs4, d4, ds4, p4, q4, rfl, rfl, rfl, h4, r4⟩ := trodAll_cons r3
  obtain ⟨rfl, rfl, rfl⟩ := trodAll_nil r4
  obtain rfl : args = #[v0, v1, v2, v3, v4] := by cases args; simp_all
  obtain ⟨rfl, rfl⟩ := trodVars_none hV
  obtain ⟨a0, len0, cap0, rfl⟩ := okWide_slice Try.underlying22 (hval 0 22 v0 rfl rfl)
  have k0 := h0
  have lt0 : ∀ x ∈ p0, x.block < W.heap.size := by obtain ⟨m, hm⟩ := k0; exact DataW.trod_lt m _ _ _ hm
  obtain ⟨l0, rfl, s0, n0, m0, z0⟩ := open_u64s h0 hsz (j := 0) rfl rfl
  obtain ⟨a1, len1, cap1, rfl⟩ := okWide_slice Try.underlying22 (hval 1 22 v1 rfl rfl)
  have k1 := h1
  have lt1 : ∀ x ∈ p1, x.block < W.heap.size := by obtain ⟨m, hm⟩ := k1; exact DataW.trod_lt m _ _ _ hm
  obtain ⟨l1, rfl, s1, n1, m1, z1⟩ := open_u64s h1 hsz (j := 1) rfl rfl
  obtain ⟨a2, rfl, rfl, rfl, w2⟩ := open_int Try.underlying23 (hval 2 23 v2 rfl rfl) h2
  obtain ⟨x2, rfl⟩ := u64_of_wf w2
  obtain ⟨a3, len3, cap3, rfl⟩ := okWide_slice Try.underlying24 (hval 3 24 v3 rfl rfl)
  have k3 := h3
  have lt3 : ∀ x ∈ p3, x.block < W.heap.size := by obtain ⟨m, hm⟩ := k3; exact DataW.trod_lt m _ _ _ hm
  obtain ⟨l3, rfl, s3, n3, m3, z3⟩ := open_i64s h3 hsz (j := 3) rfl rfl
  obtain ⟨a4, len4, cap4, rfl⟩ := okWide_slice Try.underlying24 (hval 4 24 v4 rfl rfl)
  have k4 := h4
  have lt4 : ∀ x ∈ p4, x.block < W.heap.size := by obtain ⟨m, hm⟩ := k4; exact DataW.trod_lt m _ _ _ hm
  obtain ⟨l4, rfl, s4, n4, m4, z4⟩ := open_i64s h4 hsz (j := 4) rfl rfl
  clear hA0 hval0
  refine (walk a0 cap0 l0 a1 cap1 l1 x2 a3 cap3 l3 a4 cap4 l4 W s0 n0 m0 z0 s1 n1 m1 z1 s3 n3 m3 z3 s4 n4 m4 z4).mono fun e W' ⟨he, bel⟩ => ?_
  subst he
  exact ⟨_, rfl, _, _, _, [], _, [], hW', trodAll_mk1 (shut_bool Try.underlying4 _), (trodAll_cons_mk (Below.trod laidOut (by kernel_rfl) (of_decide_eq_true (by kernel_rfl)) k0 bel lt0) (trodAll_cons_mk (Below.trod laidOut (by kernel_rfl) (of_decide_eq_true (by kernel_rfl)) k1 bel lt1) (trodAll_cons_mk (shut_int Try.underlying23 w2) (trodAll_cons_mk (Below.trod laidOut (by kernel_rfl) (of_decide_eq_true (by kernel_rfl)) k3 bel lt3) (trodAll_cons_mk (Below.trod laidOut (by kernel_rfl) (of_decide_eq_true (by kernel_rfl)) k4 bel lt4) trodAll_mk0))))), rfl, bel.frame _, fun h => by cases h⟩
theorem over : Rows.callBestRow.holds Try.pinned (OpenSpec.ofChange Rows.callBestSpec) :=
  OpenClaim.holds_of_wide 3 Try.f3 rfl rfl rfl rfl rfl rfl rfl ⟨rfl, rfl, rfl, rfl, rfl⟩ rfl rfl rfl rfl rfl (by kernel_rfl) Try.func3 (by kernel_rfl)
    (of_decide_eq_true (by kernel_rfl)) (by unfold Func.isWrapper; first | (rw [if_pos (by decide +kernel)]; kernel_rfl) | (rw [if_neg (by decide +kernel)]; exact ⟨rfl, rfl⟩))
    (fun os started H enc _ => lifted os started H enc)
theorem proved : Rows.CallBestSaid := over
#print axioms proved
end Go.Proofs.Ytbggibdldadpiaa.lawCallBest
