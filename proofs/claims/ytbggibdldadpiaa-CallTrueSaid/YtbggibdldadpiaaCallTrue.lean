/-
  By Strict nobody earns more by saying another number than what is true; who says what is true loses nothing; what is paid is not below what is got; as many pairs as by Clear, or one fewer.
  No condition beyond the statement's own.
-/
import Derived.Test.YtbggibdldadpiaaKc
import Derived.Test.YtbggibdldadpiaaKa
import Derived.Deep.RegionHeld3
namespace Go.Proofs.Ytbggibdldadpiaa.lawCallTrue
open Go.RowKit Go.K Go.ChangeShapes Go.WideShapes Go.ChangeAt
set_option linter.unusedVariables false
set_option linter.unusedSimpArgs false
theorem mem_row (d : Nat → Nat) (n i : Nat) : ((i : Int) ∈ rowL d n) ↔ ∃ q, q < n ∧ d q = i := by
  unfold rowL
  rw [List.mem_map]
  constructor
  · rintro ⟨q, hq, e⟩; exact ⟨q, List.mem_range.1 hq, by omega⟩
  · rintro ⟨q, hq, e⟩; exact ⟨q, List.mem_range.2 hq, by rw [e]⟩
theorem tmod_bound (z n : Int) (h : 0 < n) : -n < z.tmod n ∧ z.tmod n < n := by
  have h1 := Int.tmod_lt_of_pos z h
  have h2 := Int.tmod_lt_of_pos (-z) h
  rw [Int.neg_tmod] at h2
  omega
theorem lq_set_at {l : List (BitVec 64)} {who : Nat} {c : BitVec 64} (h : who < l.length) : lq (l.set who c) who = c.toNat := by
  unfold lq
  rw [List.getD_eq_getElem?_getD, List.getElem?_set_self h]; rfl
theorem stN_lt {xs ys : List (BitVec 64)} {da db : Nat → Nat} {k : Nat} (hk : KV xs ys da db k) : stN xs ys da db k ≤ xs.length ∧ stN xs ys da db k ≤ ys.length := by
  have := stN_le (xs := xs) (ys := ys) (da := da) (db := db) (k := k)
  have := hk.1; have := hk.2.1; omega
/-- What one who asks earns, by the plain game. -/
theorem earn_ask {xs ys : List (BitVec 64)} {da db : Nat → Nat} {k j : Nat} (ha : RankZ true xs da) (hk : KV xs ys da db k) (hj : j < xs.length) (v : Int) (worth pay : Nat) (hv : v = (worth : Int)) :
    earnZ true (rowL da (stN xs ys da db k)) (rowL db (stN xs ys da db k)) ((da j : Nat) : Int) worth pay (stGet xs ys da db k) = if j < stN xs ys da db k then (if stOK xs ys da db k then ((stMid xs ys da db k : Nat) : Int) else (lq xs (da (k - 1)) : Int)) - v else 0 := by
  unfold earnZ
  rw [if_pos rfl]
  have e : decide (((da j : Nat) : Int) ∈ rowL da (stN xs ys da db k)) = decide (j < stN xs ys da db k) := by
    apply decide_eq_decide.2
    rw [mem_row, in_rank ha hj (stN_lt hk).1]
  rw [e, hv]
  by_cases c : j < stN xs ys da db k
  · rw [if_pos (decide_eq_true c), if_pos c]
    unfold stGet
    rw [if_neg (by omega)]
    split <;> rfl
  · rw [if_neg (by simpa using c), if_neg c]
theorem earn_bid {xs ys : List (BitVec 64)} {da db : Nat → Nat} {k j : Nat} (hb : RankZ false ys db) (hk : KV xs ys da db k) (hj : j < ys.length) (v : Int) (worth get : Nat) (hv : v = -(worth : Int)) :
    earnZ false (rowL da (stN xs ys da db k)) (rowL db (stN xs ys da db k)) ((db j : Nat) : Int) worth (stPay xs ys da db k) get = if j < stN xs ys da db k then (if stOK xs ys da db k then -((stMid xs ys da db k : Nat) : Int) else -(lq ys (db (k - 1)) : Int)) - v else 0 := by
  unfold earnZ
  rw [if_neg (by decide)]
  have e : decide (((db j : Nat) : Int) ∈ rowL db (stN xs ys da db k)) = decide (j < stN xs ys da db k) := by
    apply decide_eq_decide.2
    rw [mem_row, in_rank hb hj (stN_lt hk).2]
  rw [e, hv]
  by_cases c : j < stN xs ys da db k
  · rw [if_pos (decide_eq_true c), if_pos c]
    unfold stPay
    rw [if_neg (by omega)]
    split <;> omega
  · rw [if_neg (by simpa using c), if_neg c]
/-- Asks: what is true is best. -/
theorem best_ask {xs ys : List (BitVec 64)} {da db da' db' : Nat → Nat} {k k' who : Nat} {lie : BitVec 64} (hw : who < xs.length) (ha : RankZ true xs da) (hb : RankZ false ys db) (hk : KV xs ys da db k) (ha' : RankZ true (xs.set who lie) da') (hb' : RankZ false ys db') (hk' : KV (xs.set who lie) ys da' db' k') (p p' : Nat) :
    0 ≤ earnZ true (rowL da (stN xs ys da db k)) (rowL db (stN xs ys da db k)) who (lq xs who) p (stGet xs ys da db k) ∧
    earnZ true (rowL da' (stN (xs.set who lie) ys da' db' k')) (rowL db' (stN (xs.set who lie) ys da' db' k')) who (lq xs who) p' (stGet (xs.set who lie) ys da' db' k') ≤ earnZ true (rowL da (stN xs ys da db k)) (rowL db (stN xs ys da db k)) who (lq xs who) p (stGet xs ys da db k) := by
  obtain rfl := rankz_unique hb' hb
  have hl : (xs.set who lie).length = xs.length := List.length_set
  obtain ⟨j, j', s, h1, h2, e1, e2, s1, s2, s3, s4, s5⟩ := ins_ex hw ha ha'
  have i1 : Ins xs.length (fun p => (lq xs (da p) : Int)) (fun p => (lq xs (s p) : Int)) j (lq xs who : Int) :=
    ⟨h1, fun p hp => by show (lq xs (da p) : Int) = _; rw [s1 p hp], by show (lq xs (da j) : Int) = _; rw [e1], fun p hp hp2 => by show (lq xs (da (p + 1)) : Int) = _; rw [s2 p hp hp2], fun p q hpq hq => Int.ofNat_le.2 (rank_up ha hpq hq)⟩
  have i2 : Ins xs.length (fun p => (lq (xs.set who lie) (da' p) : Int)) (fun p => (lq xs (s p) : Int)) j' (lie.toNat : Int) :=
    ⟨h2, fun p hp => by show (lq (xs.set who lie) (da' p) : Int) = _; rw [s3 p hp, lq_set (s5 p (by omega))], by show (lq (xs.set who lie) (da' j') : Int) = _; rw [e2, lq_set_at hw], fun p hp hp2 => by show (lq (xs.set who lie) (da' (p + 1)) : Int) = _; rw [s4 p hp hp2, lq_set (s5 p hp2)], fun p q hpq hq => Int.ofNat_le.2 (rank_up ha' hpq (by rw [hl]; exact hq))⟩
  have g1 := game_ask ha hb hk
  have g2 := game_ask ha' hb' hk'
  rw [hl] at g2
  have hm : k = k' → (k < xs.length → (lq xs (da k) : Int) = (lq (xs.set who lie) (da' k) : Int)) → k < xs.length → k < ys.length → ((stMid xs ys da db' k : Nat) : Int) = ((stMid (xs.set who lie) ys da' db' k' : Nat) : Int) := by
    intro e he hkn _
    subst e
    have := he hkn
    unfold stMid
    rw [show lq xs (da k) = lq (xs.set who lie) (da' k) by omega]
  have hb0 : ∀ p q, p ≤ q → q < ys.length → ((lq ys (db' q) : Nat) : Int) ≤ ((lq ys (db' p) : Nat) : Int) := fun p q hpq hq => Int.ofNat_le.2 (rank_down hb hpq hq)
  have T := true_best i1 i2 hb0 g1 g2 hm
  have q1 := earn_ask (j := j) ha hk h1 ((lq xs who : Nat) : Int) (lq xs who) p rfl
  have q2 := earn_ask (j := j') ha' hk' (by rw [hl]; exact h2) ((lq xs who : Nat) : Int) (lq xs who) p' rfl
  rw [e1] at q1
  rw [e2] at q2
  rw [q1, q2]
  exact T
theorem best_bid {xs ys : List (BitVec 64)} {da db da' db' : Nat → Nat} {k k' who : Nat} {lie : BitVec 64} (hw : who < ys.length) (ha : RankZ true xs da) (hb : RankZ false ys db) (hk : KV xs ys da db k) (ha' : RankZ true xs da') (hb' : RankZ false (ys.set who lie) db') (hk' : KV xs (ys.set who lie) da' db' k') (g g' : Nat) :
    0 ≤ earnZ false (rowL da (stN xs ys da db k)) (rowL db (stN xs ys da db k)) who (lq ys who) (stPay xs ys da db k) g ∧
    earnZ false (rowL da' (stN xs (ys.set who lie) da' db' k')) (rowL db' (stN xs (ys.set who lie) da' db' k')) who (lq ys who) (stPay xs (ys.set who lie) da' db' k') g' ≤ earnZ false (rowL da (stN xs ys da db k)) (rowL db (stN xs ys da db k)) who (lq ys who) (stPay xs ys da db k) g := by
  obtain rfl := rankz_unique ha' ha
  have hl : (ys.set who lie).length = ys.length := List.length_set
  obtain ⟨j, j', s, h1, h2, e1, e2, s1, s2, s3, s4, s5⟩ := ins_ex hw hb hb'
  have i1 : Ins ys.length (fun p => -(lq ys (db p) : Int)) (fun p => -(lq ys (s p) : Int)) j (-(lq ys who : Int)) :=
    ⟨h1, fun p hp => by show -(lq ys (db p) : Int) = _; rw [s1 p hp], by show -(lq ys (db j) : Int) = _; rw [e1], fun p hp hp2 => by show -(lq ys (db (p + 1)) : Int) = _; rw [s2 p hp hp2], fun p q hpq hq => by show -(lq ys (db p) : Int) ≤ -(lq ys (db q) : Int); have := rank_down hb hpq hq; omega⟩
  have i2 : Ins ys.length (fun p => -(lq (ys.set who lie) (db' p) : Int)) (fun p => -(lq ys (s p) : Int)) j' (-(lie.toNat : Int)) :=
    ⟨h2, fun p hp => by show -(lq (ys.set who lie) (db' p) : Int) = _; rw [s3 p hp, lq_set (s5 p (by omega))], by show -(lq (ys.set who lie) (db' j') : Int) = _; rw [e2, lq_set_at hw], fun p hp hp2 => by show -(lq (ys.set who lie) (db' (p + 1)) : Int) = _; rw [s4 p hp hp2, lq_set (s5 p hp2)], fun p q hpq hq => by show -(lq (ys.set who lie) (db' p) : Int) ≤ -(lq (ys.set who lie) (db' q) : Int); have := rank_down hb' hpq (by rw [hl]; exact hq); omega⟩
  have g1 := game_bid ha hb hk
  have g2 := game_bid ha' hb' hk'
  rw [hl] at g2
  have hm : k = k' → (k < ys.length → -(lq ys (db k) : Int) = -(lq (ys.set who lie) (db' k) : Int)) → k < ys.length → k < xs.length → -((stMid xs ys da' db k : Nat) : Int) = -((stMid xs (ys.set who lie) da' db' k' : Nat) : Int) := by
    intro e he hkn _
    subst e
    have := he hkn
    unfold stMid
    rw [show lq ys (db k) = lq (ys.set who lie) (db' k) by omega]
  have hb0 : ∀ p q, p ≤ q → q < xs.length → -((lq xs (da' q) : Nat) : Int) ≤ -((lq xs (da' p) : Nat) : Int) := fun p q hpq hq => by have := rank_up ha hpq hq; omega
  have T := true_best i1 i2 hb0 g1 g2 hm
  have q1 := earn_bid (j := j) hb hk h1 (-((lq ys who : Nat) : Int)) (lq ys who) g rfl
  have q2 := earn_bid (j := j') hb' hk' (by rw [hl]; exact h2) (-((lq ys who : Nat) : Int)) (lq ys who) g' rfl
  rw [e1] at q1
  rw [e2] at q2
  rw [q1, q2]
  exact T
theorem earn_abs {ask : Bool} {L1 L2 : List Int} {who : Int} {worth pay get : Nat} (h1 : worth < 18446744073709551616) (h2 : pay < 18446744073709551616) (h3 : get < 18446744073709551616) : (earnZ ask L1 L2 who worth pay get).natAbs < 18446744073709551616 := by
  unfold earnZ; split <;> split <;> omega
theorem pay_get {xs ys : List (BitVec 64)} {da db : Nat → Nat} {k : Nat} (hk : KV xs ys da db k) : stGet xs ys da db k ≤ stPay xs ys da db k := by
  unfold stPay stGet
  by_cases c : stN xs ys da db k = 0
  · rw [if_pos c, if_pos c]; exact Nat.le_refl _
  · rw [if_neg c, if_neg c]
    have h0 : 0 < k := by have := stN_le (xs := xs) (ys := ys) (da := da) (db := db) (k := k); omega
    have := hk.2.2.1 (k - 1) (by omega)
    split <;> omega
theorem fewer {xs ys : List (BitVec 64)} {da db : Nat → Nat} {k : Nat} : stN xs ys da db k ≤ k ∧ k ≤ stN xs ys da db k + 1 := by
  unfold stN; split <;> (try split) <;> omega
theorem st_lt {xs ys : List (BitVec 64)} {da db : Nat → Nat} {k : Nat} : stGet xs ys da db k < 18446744073709551616 ∧ stPay xs ys da db k < 18446744073709551616 := by
  have h1 := lq_lt xs (da k)
  have h2 := lq_lt ys (db k)
  have h3 := lq_lt xs (da (k - 1))
  have h4 := lq_lt ys (db (k - 1))
  unfold stGet stPay stMid
  constructor <;> (split <;> (try split) <;> omega)
set_option maxRecDepth 100000 in
set_option maxHeartbeats 4000000 in
theorem walk (a : Option Addr) (c : Nat) (xs : List (BitVec 64)) (b : Option Addr) (d : Nat) (ys : List (BitVec 64)) (ask : Bool) (who : Int) (lie : BitVec 64) (w : World)
    (hs1 : Sl w a (vQ xs)) (hn1 : xs.length ≤ c) (hm1 : c ≤ 17592186043904) (hz1 : a = none → xs.length = 0 ∧ c = 0) (hs2 : Sl w b (vQ ys)) (hn2 : ys.length ≤ d) (hm2 : d ≤ 17592186043904) (hz2 : b = none → ys.length = 0 ∧ d = 0)
    (hw : -9223372036854775808 ≤ who ∧ who ≤ 9223372036854775807) :
    Calls Try.prog 4 #[.slice a xs.length c, .slice b ys.length d, .bool ask, .int .i64 who, .int .u64 (U64 lie)] w fun e w' => e = .returned (.bool true) ∧ Below w.heap.size w w' := by
  have HAW := Lib.hid (awake_any w)
  by_cases g1 : 3000 < xs.length
  · have t1 : decide (3000 < (xs.length : Int)) = true := decide_eq_true (by omega)
    clear hn1 hm1 hn2 hm2 g1
    go_enter Try.func4, Try.ntmps4
    go_wp2_with fail
    refine HAW.out.mono ?_
    rintro e w1 ⟨rfl, hb1⟩
    go_wp2
    go_ret
    exact ⟨rfl, hb1⟩
  have t1 : decide (3000 < (xs.length : Int)) = false := decide_eq_false (by omega)
  by_cases g2 : 3000 < ys.length
  · have t2 : decide (3000 < (ys.length : Int)) = true := decide_eq_true (by omega)
    clear hn1 hm1 hn2 hm2 g1 g2
    go_enter Try.func4, Try.ntmps4
    go_wp2_with fail
    refine HAW.out.mono ?_
    rintro e w1 ⟨rfl, hb1⟩
    go_wp2
    go_ret
    exact ⟨rfl, hb1⟩
  have t2 : decide (3000 < (ys.length : Int)) = false := decide_eq_false (by omega)
  have HN := Lib.hid (show xs.length ≤ 3000 ∧ ys.length ≤ 3000 by omega)
  have HWH := Lib.hid hw
  have HLX := Lib.hid (fun V (hV : Below w.heap.size w V) => lent_any a c xs V (by omega) hz1 (hs1.kept hV))
  have HLY := Lib.hid (fun V (hV : Below w.heap.size w V) => lent_any b d ys V (by omega) hz2 (hs2.kept hV))
  clear hs1 hn1 hm1 hz1 hs2 hn2 hm2 hz2 g1 g2 hw
  go_enter Try.func4, Try.ntmps4
  go_wp2_with fail
  refine HAW.out.mono ?_
  rintro e w0 ⟨rfl, hb0⟩
  have HB := Lib.hid hb0
  clear hb0 HAW
  go_wp2_with fail
  refine (HLX.out _ HB.out).mono ?_
  rintro e w1 ⟨g9, c9, rfl, hg9, hl9, hb1⟩
  have HL9 := Lib.hid hl9
  have HB := Lib.hid (HB.out.trans (hb1.mono HB.out.size))
  clear hl9 hb1 hg9
  go_wp2_with fail
  refine (HLY.out _ HB.out).mono ?_
  rintro e w2 ⟨g10, c10, rfl, hg10, hl10, hb2⟩
  have K15 := Lib.hid (strict_any xs ys (some ⟨g9, 0, none⟩) (some ⟨g10, 0, none⟩) c9 c10 w2 (by have := HN.out; omega) (by have := HN.out; omega) (HL9.out.kept hb2).sl hl10.sl)
  have HB := Lib.hid (HB.out.trans (hb2.mono HB.out.size))
  clear hl10 hb2 hg10 HL9
  go_wp2_with fail
  refine K15.out.mono ?_
  rintro e w3 ⟨v3, rfl, ⟨da, db, k, hza, hzb, hk, hd⟩, hb⟩
  obtain ⟨a1, c1, a2, c2, rfl, h1, h2⟩ := hd.parts
  have HZA := Lib.hid hza
  have HZB := Lib.hid hzb
  have HK := Lib.hid hk
  have HFW := Lib.hid (fewer (xs := xs) (ys := ys) (da := da) (db := db) (k := k))
  have HPG := Lib.hid (pay_get hk)
  have HLT := Lib.hid (st_lt (xs := xs) (ys := ys) (da := da) (db := db) (k := k))
  obtain ⟨n, hn⟩ : ∃ n, n = stN xs ys da db k := ⟨_, rfl⟩
  obtain ⟨py, hpy⟩ : ∃ py, py = stPay xs ys da db k := ⟨_, rfl⟩
  obtain ⟨gt, hgt⟩ : ∃ gt, gt = stGet xs ys da db k := ⟨_, rfl⟩
  have HST := Lib.hid (show n = stN xs ys da db k ∧ py = stPay xs ys da db k ∧ gt = stGet xs ys da db k from ⟨hn, hpy, hgt⟩)
  rw [← hn] at HFW h1 h2 ⊢
  rw [← hpy, ← hgt] at HPG HLT ⊢
  have D1 := Lib.hid h1
  have D2 := Lib.hid h2
  have HB := Lib.hid (HB.out.trans (hb.mono HB.out.size))
  clear hza hzb hk hd h1 h2 hb K15 hn hpy hgt
  go_wp2_with ((with_reducible refine at_store_op ?_); refine wpList_store_lit 27 w3.heap.size 0 (dlA a1 c1 a2 c2 n py gt) (.agg (dlA a1 c1 a2 c2 n py gt)) (cur := #[.slice none 0 0, .slice none 0 0, .int .u64 0, .int .u64 0]) (t := 27) (alloc_at rfl) sz27 (Nat.le_of_ble_eq_true rfl) rfl rfl ?_ ?_ ?_; exact rfl; exact rfl; intro w4 hp4)
  have hb : Below w3.heap.size w3 w4 := hp4.below ((Below.refl _ _).alloc (Nat.le_refl _) _) (by simp) (Nat.le_refl _)
  have RD := Lib.hid hp4.at'
  have D1 := Lib.hid (D1.out.kept hb)
  have D2 := Lib.hid (D2.out.kept hb)
  have HB := Lib.hid (HB.out.trans (hb.mono HB.out.size))
  clear hb hp4
  obtain ⟨bd, hbd⟩ : ∃ bd, bd = w3.heap.size := ⟨_, rfl⟩
  rw [← hbd] at RD ⊢
  clear hbd
  refine (HLX.out _ HB.out).mono ?_
  rintro e w5 ⟨g11, c11, rfl, hg11, hl11, hb⟩
  have HL11 := Lib.hid hl11
  have RD := Lib.hid (row_kept RD.out hb)
  have D1 := Lib.hid (D1.out.kept hb)
  have D2 := Lib.hid (D2.out.kept hb)
  have HB := Lib.hid (HB.out.trans (hb.mono HB.out.size))
  clear hl11 hb hg11
  go_wp2_with fail
  refine (HLY.out _ HB.out).mono ?_
  rintro e w6 ⟨g12, c12, rfl, hg12, hl12, hb⟩
  have K8 := Lib.hid (clear_any xs ys (some ⟨g11, 0, none⟩) (some ⟨g12, 0, none⟩) c11 c12 w6 (by have := HN.out; omega) (by have := HN.out; omega) (HL11.out.kept hb).sl hl12.sl)
  have RD := Lib.hid (row_kept RD.out hb)
  have D1 := Lib.hid (D1.out.kept hb)
  have D2 := Lib.hid (D2.out.kept hb)
  have HB := Lib.hid (HB.out.trans (hb.mono HB.out.size))
  clear hl12 hb hg12 HL11
  go_wp2_with fail
  refine K8.out.mono ?_
  rintro e w7 ⟨v7, rfl, ⟨da2, db2, k2, hza, hzb, hk, hd⟩, hb⟩
  have e1 := rankz_unique HZA.out hza
  have e2 := rankz_unique HZB.out hzb
  subst e1 e2
  have e3 := kv_unique HK.out hk
  subst e3
  obtain ⟨m1, f1, m2, f2, rfl, h1, h2⟩ := hd.parts
  have RD := Lib.hid (row_kept RD.out hb)
  have D1 := Lib.hid (D1.out.kept hb)
  have D2 := Lib.hid (D2.out.kept hb)
  have HB := Lib.hid (HB.out.trans (hb.mono HB.out.size))
  clear hza hzb hk hd h1 h2 hb K8
  generalize priceV xs ys da db k = pr at *
  go_upto_region 7 with ((with_reducible refine at_store_op ?_); refine wpList_store_lit 27 w7.heap.size 0 (dlA m1 f1 m2 f2 k pr pr) (.agg (dlA m1 f1 m2 f2 k pr pr)) (cur := #[.slice none 0 0, .slice none 0 0, .int .u64 0, .int .u64 0]) (t := 27) (alloc_at rfl) sz27 (Nat.le_of_ble_eq_true rfl) rfl rfl ?_ ?_ ?_; exact rfl; exact rfl; intro w8 hp8)
  have hb : Below w7.heap.size w7 w8 := hp8.below ((Below.refl _ _).alloc (Nat.le_refl _) _) (by simp) (Nat.le_refl _)
  have x4 : w8.cell? ⟨w7.heap.size, 0, none⟩ = some (.slice m1 k f1) := by rw [cell_of_row _ _ _ _ _ _ hp8.at']; rfl
  have RD := Lib.hid (row_kept RD.out hb)
  have D1 := Lib.hid (D1.out.kept hb)
  have D2 := Lib.hid (D2.out.kept hb)
  have HB := Lib.hid (HB.out.trans (hb.mono HB.out.size))
  clear hb hp8
  have CEL := Lib.hid (show ∀ V : World, V.heap[bd]? = some (.cells (dlA a1 c1 a2 c2 n py gt) 27) → V.cell? ⟨bd, 0, none⟩ = some (.slice a1 n c1) ∧ V.cell? ⟨bd, 1, none⟩ = some (.slice a2 n c2) ∧ V.cell? ⟨bd, 2, none⟩ = some (.int .u64 py) ∧ V.cell? ⟨bd, 3, none⟩ = some (.int .u64 gt) from fun V h => by
    refine ⟨?_, ?_, ?_, ?_⟩ <;> (rw [cell_of_row _ _ _ _ _ _ h]; rfl))
  have HFN := Lib.hid (show n ≤ 3000 by have h1 := HFW.out; have h2 := HK.out.1; have h3 := HN.out; omega)
  obtain ⟨x0, x1, x2, x3⟩ := CEL.out w8 RD.out
  obtain ⟨fw, hfw⟩ : ∃ fw, fw = k - n := ⟨_, rfl⟩
  have u1 : IntKind.i64.wrap ((k : Int) - (n : Int)) = (fw : Int) := by rw [IntKind.wrap_i64]; have := HFW.out; omega
  have u2 : decide ((py : Int) < (gt : Int)) = false := decide_eq_false (by have := HPG.out; omega)
  have u2n : decide (py < gt) = false := decide_eq_false (by have := HPG.out; omega)
  have u3 : decide ((fw : Int) < 0) = false := decide_eq_false (by omega)
  have u4 : decide (1 < (fw : Int)) = false := decide_eq_false (by have := HFW.out; omega)
  have u5 : ((n : Int) != (n : Int)) = false := by simp
  clear hfw
  go_wp2_with fail
  refine (HLX.out _ HB.out).mono ?_
  rintro e w9 ⟨g14, c14, rfl, hg14, hl14, hb⟩
  have DB1 := Lib.hid (show ∀ x, a1 = some x → rowN da n ≠ [] → x.block < g14 from fun x hx hne => by have := D1.out.lt x hx hne; omega)
  have DB2 := Lib.hid (show ∀ x, a2 = some x → rowN db n ≠ [] → x.block < g14 from fun x hx hne => by have := D2.out.lt x hx hne; omega)
  have HG14 := Lib.hid (show bd < g14 ∧ w.heap.size ≤ g14 by have h1 := lt_row RD.out; have h2 := HB.out.size; omega)
  have LA := Lib.hid hl14
  have RD := Lib.hid (row_kept RD.out hb)
  have D1 := Lib.hid (D1.out.kept hb)
  have D2 := Lib.hid (D2.out.kept hb)
  have HB := Lib.hid (HB.out.trans (hb.mono HB.out.size))
  clear x0 x1 x2 x3 x4 u1 u2 u2n u3 u4 u5 hl14 hb
  go_wp2_with fail
  refine (HLY.out _ HB.out).mono ?_
  rintro e w10 ⟨g15, c15, rfl, hg15, hl15, hb⟩
  have HG15 := Lib.hid (show g14 < g15 by have h1 := LA.out.lt; omega)
  have LA := Lib.hid (LA.out.kept hb)
  have LB := Lib.hid hl15
  have RD := Lib.hid (row_kept RD.out hb)
  have D1 := Lib.hid (D1.out.kept hb)
  have D2 := Lib.hid (D2.out.kept hb)
  have HB := Lib.hid (HB.out.trans (hb.mono HB.out.size))
  clear hl15 hb hg14 hg15 HLX HLY
  cases ask
  case true =>
    by_cases n0 : xs.length = 0
    · have t0 : ((xs.length : Int) == 0) = true := by rw [beq_iff_eq]; omega
      clear n0
      go_wp2
      go_ret
      exact ⟨rfl, HB.out⟩
    have t0 : ((xs.length : Int) == 0) = false := by rw [beq_eq_false_iff_ne]; omega
    have hlo : (0 : Int) < (xs.length : Int) := by omega
    have hnl : (xs.length : Int) ≤ 3000 := by have := HN.out; omega
    obtain ⟨r, hr⟩ : ∃ r, who.tmod (xs.length : Int) = r := ⟨_, rfl⟩
    have hr1 : -(xs.length : Int) < r ∧ r < (xs.length : Int) := by
      rw [← hr]
      exact tmod_bound who _ hlo
    obtain ⟨s, hs⟩ : ∃ s : Nat, r + (xs.length : Int) = (s : Int) := ⟨(r + (xs.length : Int)).toNat, by omega⟩
    obtain ⟨j, hj⟩ : ∃ j, j = s % xs.length := ⟨_, rfl⟩
    have hjl : j < xs.length := by rw [hj]; exact Nat.mod_lt _ (by omega)
    have v1 : IntKind.i64.wrap r = r := by rw [IntKind.wrap_i64]; omega
    have v2 : IntKind.i64.wrap (r + (xs.length : Int)) = (s : Int) := by rw [IntKind.wrap_i64]; omega
    have v3 : (s : Int).tmod (xs.length : Int) = (j : Int) := by rw [hj]; exact (Int.ofNat_tmod s xs.length).symm
    have v4 : IntKind.i64.wrap (j : Int) = (j : Int) := by rw [IntKind.wrap_i64]; omega
    have j1 : (j : Int) < (xs.length : Int) := by omega
    have z1 := LA.out.cell j hjl
    have z2 := LA.out.frozen j
    have HX := Lib.hid (show LentQ (w10.setCell ⟨g14, j, none⟩ (.int .u64 (U64 lie))) (xs.set j lie) g14 c14 from LA.out.set j hjl lie)
    have HO := Lib.hid (show Only (fun k => k = g14) w10 (w10.setCell ⟨g14, j, none⟩ (.int .u64 (U64 lie))) from Only.of_grown (S := fun k => k = g14) (grown_set (grown_refl w10 (some g14)) j _) (fun k hk => by injection hk with e; exact e.symm))
    have HJ := Lib.hid hjl
    have HVL := Lib.hid (lq_lt xs j)
    obtain ⟨v, hv⟩ : ∃ v, v = lq xs j := ⟨_, rfl⟩
    have HV := Lib.hid hv
    rw [← hv] at z1 HVL
    have hne : ((xs.length : Int) != 0) = true := by rw [bne_iff_ne]; omega
    clear hs hj hjl hr1 n0 hv
    go_upto_region 22 with fail
    obtain ⟨w11, hw11⟩ : ∃ w11, w11 = w10.setCell ⟨g14, j, none⟩ (.int .u64 (U64 lie)) := ⟨_, rfl⟩
    rw [← hw11] at HX HO ⊢
    have LX := Lib.hid (LB.out.only HO.out (by have := HG15.out; show ¬ (g15 = g14); omega))
    have HS11 := Lib.hid (show w11.heap.size = w10.heap.size by rw [hw11]; simp)
    have RD := Lib.hid (HO.out.row RD.out (by have := HG15.out; have := HG14.out; show ¬ (bd = g14); omega))
    have BO := Lib.hid (show ∀ (aa : Option Addr) (dd : Nat → Nat), Sl w10 aa (rowN dd n) → (∀ x, aa = some x → rowN dd n ≠ [] → x.block ≠ g14) → Sl w11 aa (rowN dd n) from fun aa dd h hn => HO.out.sl h (fun y hy hne => hn y hy hne))
    have D1 := Lib.hid (BO.out _ _ D1.out (fun x hx hne => by have := DB1.out x hx hne; have := HG14.out; have := HG15.out; omega))
    have D2 := Lib.hid (BO.out _ _ D2.out (fun x hx hne => by have := DB2.out x hx hne; have := HG14.out; have := HG15.out; omega))
    have HB := Lib.hid (HB.out.trans (HO.out.below HB.out.size (fun k hk => by have := HG14.out; have := HG15.out; omega)))
    clear hw11 z1 z2 v1 v2 v3 v4 HO BO LA LB
    have KE := Lib.hid (strict_any (xs.set j lie) ys (some ⟨g14, 0, none⟩) (some ⟨g15, 0, none⟩) c14 c15 w11 (by have hl : (xs.set j lie).length = xs.length := List.length_set; have := HN.out; omega) (by have hl : (xs.set j lie).length = xs.length := List.length_set; have := HN.out; omega) HX.out.sl LX.out.sl)
    rw [show (xs.set j lie).length = xs.length from List.length_set] at KE
    go_wp2_with fail
    refine KE.out.mono ?_
    rintro e w12 ⟨v12, rfl, ⟨da', db', k', hza, hzb, hk, hd⟩, hb⟩
    obtain ⟨e1, f3, e2, f4, rfl, h1, h2⟩ := hd.parts
    have HFW' := Lib.hid (show stN (xs.set j lie) ys da' db' k' ≤ 3000 by have h1 := stN_lt hk; have h2 := HN.out; have hl : (xs.set j lie).length = xs.length := List.length_set; omega)
    have HLT' := Lib.hid (st_lt (xs := (xs.set j lie)) (ys := ys) (da := da') (db := db') (k := k'))
    obtain ⟨n', hn'⟩ : ∃ n', n' = stN (xs.set j lie) ys da' db' k' := ⟨_, rfl⟩
    obtain ⟨py', hpy'⟩ : ∃ py', py' = stPay (xs.set j lie) ys da' db' k' := ⟨_, rfl⟩
    obtain ⟨gt', hgt'⟩ : ∃ gt', gt' = stGet (xs.set j lie) ys da' db' k' := ⟨_, rfl⟩
    have HTB := Lib.hid (best_ask HJ.out HZA.out HZB.out HK.out hza hzb hk py py')
    rw [← hn'] at h1 h2 HTB HFW' ⊢
    rw [← hpy', ← hgt'] at HLT' ⊢
    rw [← hgt', ← HST.out.1, ← HST.out.2.2, ← HV.out] at HTB
    have E1 := Lib.hid h1
    have E2 := Lib.hid h2
    have RD := Lib.hid (row_kept RD.out hb)
    have D1 := Lib.hid (D1.out.kept hb)
    have D2 := Lib.hid (D2.out.kept hb)
    have HB := Lib.hid (HB.out.trans (hb.mono HB.out.size))
    clear hza hzb hk hd h1 h2 hb KE hn' hpy' hgt'
    go_upto_region 23 with ((with_reducible refine at_store_op ?_); refine wpList_store_lit 27 w12.heap.size 0 (dlA e1 f3 e2 f4 n' py' gt') (.agg (dlA e1 f3 e2 f4 n' py' gt')) (cur := #[.slice none 0 0, .slice none 0 0, .int .u64 0, .int .u64 0]) (t := 27) (alloc_at rfl) sz27 (Nat.le_of_ble_eq_true rfl) rfl rfl ?_ ?_ ?_; exact rfl; exact rfl; intro w13 hp13)
    have hb : Below w12.heap.size w12 w13 := hp13.below ((Below.refl _ _).alloc (Nat.le_refl _) _) (by simp) (Nat.le_refl _)
    have RE := Lib.hid hp13.at'
    have E1 := Lib.hid (E1.out.kept hb)
    have E2 := Lib.hid (E2.out.kept hb)
    have RD := Lib.hid (row_kept RD.out hb)
    have D1 := Lib.hid (D1.out.kept hb)
    have D2 := Lib.hid (D2.out.kept hb)
    have HB := Lib.hid (HB.out.trans (hb.mono HB.out.size))
    clear hb hp13
    obtain ⟨be, hbe⟩ : ∃ be, be = w12.heap.size := ⟨_, rfl⟩
    rw [← hbe] at RE ⊢
    clear hbe
    have K16 := Lib.hid (earned_any true (rowL da n) (rowL db n) n n c1 c2 a1 a2 (j : Int) v py gt w13 (rowL_len _ _) (rowL_len _ _) HFN.out HFN.out HVL.out HLT.out.2 HLT.out.1 (by rw [← rowN_vI]; exact D1.out) (by rw [← rowN_vI]; exact D2.out))
    obtain ⟨x0, x1, x2, x3⟩ := CEL.out w13 RD.out
    go_wp2_with fail
    refine K16.out.mono ?_
    rintro e w14 ⟨rfl, hi, hb⟩
    have HI := Lib.hid hi
    have K17 := Lib.hid (n01.sign_any (w13.heap.size + 1) _ w14 hi)
    have RE := Lib.hid (row_kept RE.out hb)
    have E1 := Lib.hid (E1.out.kept hb)
    have E2 := Lib.hid (E2.out.kept hb)
    have HB := Lib.hid (HB.out.trans (hb.mono HB.out.size))
    clear hb hi K16 x0 x1 x2 x3 RD D1 D2
    have K16 := Lib.hid (earned_any true (rowL da' n') (rowL db' n') n' n' f3 f4 e1 e2 (j : Int) v py' gt' w14 (rowL_len _ _) (rowL_len _ _) HFW'.out HFW'.out HVL.out HLT'.out.2 HLT'.out.1 (by rw [← rowN_vI]; exact E1.out) (by rw [← rowN_vI]; exact E2.out))
    have HEB := Lib.hid (show (earnZ true (rowL da n) (rowL db n) (j : Int) v py gt).natAbs < 18446744073709551616 ∧ (earnZ true (rowL da' n') (rowL db' n') (j : Int) v py' gt').natAbs < 18446744073709551616 from
      ⟨earn_abs HVL.out HLT.out.2 HLT.out.1, earn_abs HVL.out HLT'.out.2 HLT'.out.1⟩)
    generalize earnZ true (rowL da n) (rowL db n) (j : Int) v py gt = z1 at *
    generalize earnZ true (rowL da' n') (rowL db' n') (j : Int) v py' gt' = z2 at *
    have s0 : decide (0 ≤ n01.sgn z1) = true := decide_eq_true (by have := HTB.out.1; unfold n01.sgn; split <;> (try split) <;> omega)
    have HCM := Lib.hid (show 0 ≤ n01.cmpI z1 z2 by have := HTB.out.2; unfold n01.cmpI; split <;> (try split) <;> omega)
    generalize n01.sgn z1 = sg at *
    have CE2 := Lib.hid (show ∀ V : World, V.heap[be]? = some (.cells (dlA e1 f3 e2 f4 n' py' gt') 27) → V.cell? ⟨be, 0, none⟩ = some (.slice e1 n' f3) ∧ V.cell? ⟨be, 1, none⟩ = some (.slice e2 n' f4) ∧ V.cell? ⟨be, 2, none⟩ = some (.int .u64 py') ∧ V.cell? ⟨be, 3, none⟩ = some (.int .u64 gt') from fun V h => by
      refine ⟨?_, ?_, ?_, ?_⟩ <;> (rw [cell_of_row _ _ _ _ _ _ h]; rfl))
    obtain ⟨x0, x1, x2, x3⟩ := CE2.out w14 RE.out
    go_wp2_with (first
      | (go_at_call 17; (with_reducible refine K17.out.mono ?_); rintro e w15 ⟨rfl, rfl⟩))
    refine K16.out.mono ?_
    rintro e w16 ⟨rfl, hi, hb⟩
    have K14 := Lib.hid (n01.cmp_any _ _ _ _ w16 (HI.out.kept hb) hi (pw_bound _ (by have := HEB.out; omega)) (pw_bound _ (by have := HEB.out; omega)))
    have HB := Lib.hid (HB.out.trans (hb.mono HB.out.size))
    clear hi hb K16 K17 x0 x1 x2 x3
    generalize n01.cmpI z1 z2 = cz at *
    have s1 : decide (0 ≤ cz) = true := decide_eq_true HCM.out
    go_wp2_with fail
    refine K14.out.mono ?_
    rintro e w17 ⟨rfl, hq⟩
    have HB := Lib.hid (HB.out.trans ((hq.below _).mono HB.out.size))
    clear hq K14
    go_wp2
    go_ret
    exact ⟨rfl, HB.out⟩
  case false =>
    by_cases n0 : ys.length = 0
    · have t0 : ((ys.length : Int) == 0) = true := by rw [beq_iff_eq]; omega
      clear n0
      go_wp2
      go_ret
      exact ⟨rfl, HB.out⟩
    have t0 : ((ys.length : Int) == 0) = false := by rw [beq_eq_false_iff_ne]; omega
    have hlo : (0 : Int) < (ys.length : Int) := by omega
    have hnl : (ys.length : Int) ≤ 3000 := by have := HN.out; omega
    obtain ⟨r, hr⟩ : ∃ r, who.tmod (ys.length : Int) = r := ⟨_, rfl⟩
    have hr1 : -(ys.length : Int) < r ∧ r < (ys.length : Int) := by
      rw [← hr]
      exact tmod_bound who _ hlo
    obtain ⟨s, hs⟩ : ∃ s : Nat, r + (ys.length : Int) = (s : Int) := ⟨(r + (ys.length : Int)).toNat, by omega⟩
    obtain ⟨j, hj⟩ : ∃ j, j = s % ys.length := ⟨_, rfl⟩
    have hjl : j < ys.length := by rw [hj]; exact Nat.mod_lt _ (by omega)
    have v1 : IntKind.i64.wrap r = r := by rw [IntKind.wrap_i64]; omega
    have v2 : IntKind.i64.wrap (r + (ys.length : Int)) = (s : Int) := by rw [IntKind.wrap_i64]; omega
    have v3 : (s : Int).tmod (ys.length : Int) = (j : Int) := by rw [hj]; exact (Int.ofNat_tmod s ys.length).symm
    have v4 : IntKind.i64.wrap (j : Int) = (j : Int) := by rw [IntKind.wrap_i64]; omega
    have j1 : (j : Int) < (ys.length : Int) := by omega
    have z1 := LB.out.cell j hjl
    have z2 := LB.out.frozen j
    have HX := Lib.hid (show LentQ (w10.setCell ⟨g15, j, none⟩ (.int .u64 (U64 lie))) (ys.set j lie) g15 c15 from LB.out.set j hjl lie)
    have HO := Lib.hid (show Only (fun k => k = g15) w10 (w10.setCell ⟨g15, j, none⟩ (.int .u64 (U64 lie))) from Only.of_grown (S := fun k => k = g15) (grown_set (grown_refl w10 (some g15)) j _) (fun k hk => by injection hk with e; exact e.symm))
    have HJ := Lib.hid hjl
    have HVL := Lib.hid (lq_lt ys j)
    obtain ⟨v, hv⟩ : ∃ v, v = lq ys j := ⟨_, rfl⟩
    have HV := Lib.hid hv
    rw [← hv] at z1 HVL
    have hne : ((ys.length : Int) != 0) = true := by rw [bne_iff_ne]; omega
    clear hs hj hjl hr1 n0 hv
    go_upto_region 22 with fail
    obtain ⟨w11, hw11⟩ : ∃ w11, w11 = w10.setCell ⟨g15, j, none⟩ (.int .u64 (U64 lie)) := ⟨_, rfl⟩
    rw [← hw11] at HX HO ⊢
    have LX := Lib.hid (LA.out.only HO.out (by have := HG15.out; show ¬ (g14 = g15); omega))
    have HS11 := Lib.hid (show w11.heap.size = w10.heap.size by rw [hw11]; simp)
    have RD := Lib.hid (HO.out.row RD.out (by have := HG15.out; have := HG14.out; show ¬ (bd = g15); omega))
    have BO := Lib.hid (show ∀ (aa : Option Addr) (dd : Nat → Nat), Sl w10 aa (rowN dd n) → (∀ x, aa = some x → rowN dd n ≠ [] → x.block ≠ g15) → Sl w11 aa (rowN dd n) from fun aa dd h hn => HO.out.sl h (fun y hy hne => hn y hy hne))
    have D1 := Lib.hid (BO.out _ _ D1.out (fun x hx hne => by have := DB1.out x hx hne; have := HG14.out; have := HG15.out; omega))
    have D2 := Lib.hid (BO.out _ _ D2.out (fun x hx hne => by have := DB2.out x hx hne; have := HG14.out; have := HG15.out; omega))
    have HB := Lib.hid (HB.out.trans (HO.out.below HB.out.size (fun k hk => by have := HG14.out; have := HG15.out; omega)))
    clear hw11 z1 z2 v1 v2 v3 v4 HO BO LA LB
    have KE := Lib.hid (strict_any xs (ys.set j lie) (some ⟨g14, 0, none⟩) (some ⟨g15, 0, none⟩) c14 c15 w11 (by have hl : (ys.set j lie).length = ys.length := List.length_set; have := HN.out; omega) (by have hl : (ys.set j lie).length = ys.length := List.length_set; have := HN.out; omega) LX.out.sl HX.out.sl)
    rw [show (ys.set j lie).length = ys.length from List.length_set] at KE
    go_wp2_with fail
    refine KE.out.mono ?_
    rintro e w12 ⟨v12, rfl, ⟨da', db', k', hza, hzb, hk, hd⟩, hb⟩
    obtain ⟨e1, f3, e2, f4, rfl, h1, h2⟩ := hd.parts
    have HFW' := Lib.hid (show stN xs (ys.set j lie) da' db' k' ≤ 3000 by have h1 := stN_lt hk; have h2 := HN.out; have hl : (ys.set j lie).length = ys.length := List.length_set; omega)
    have HLT' := Lib.hid (st_lt (xs := xs) (ys := (ys.set j lie)) (da := da') (db := db') (k := k'))
    obtain ⟨n', hn'⟩ : ∃ n', n' = stN xs (ys.set j lie) da' db' k' := ⟨_, rfl⟩
    obtain ⟨py', hpy'⟩ : ∃ py', py' = stPay xs (ys.set j lie) da' db' k' := ⟨_, rfl⟩
    obtain ⟨gt', hgt'⟩ : ∃ gt', gt' = stGet xs (ys.set j lie) da' db' k' := ⟨_, rfl⟩
    have HTB := Lib.hid (best_bid HJ.out HZA.out HZB.out HK.out hza hzb hk gt gt')
    rw [← hn'] at h1 h2 HTB HFW' ⊢
    rw [← hpy', ← hgt'] at HLT' ⊢
    rw [← hpy', ← HST.out.1, ← HST.out.2.1, ← HV.out] at HTB
    have E1 := Lib.hid h1
    have E2 := Lib.hid h2
    have RD := Lib.hid (row_kept RD.out hb)
    have D1 := Lib.hid (D1.out.kept hb)
    have D2 := Lib.hid (D2.out.kept hb)
    have HB := Lib.hid (HB.out.trans (hb.mono HB.out.size))
    clear hza hzb hk hd h1 h2 hb KE hn' hpy' hgt'
    go_upto_region 23 with ((with_reducible refine at_store_op ?_); refine wpList_store_lit 27 w12.heap.size 0 (dlA e1 f3 e2 f4 n' py' gt') (.agg (dlA e1 f3 e2 f4 n' py' gt')) (cur := #[.slice none 0 0, .slice none 0 0, .int .u64 0, .int .u64 0]) (t := 27) (alloc_at rfl) sz27 (Nat.le_of_ble_eq_true rfl) rfl rfl ?_ ?_ ?_; exact rfl; exact rfl; intro w13 hp13)
    have hb : Below w12.heap.size w12 w13 := hp13.below ((Below.refl _ _).alloc (Nat.le_refl _) _) (by simp) (Nat.le_refl _)
    have RE := Lib.hid hp13.at'
    have E1 := Lib.hid (E1.out.kept hb)
    have E2 := Lib.hid (E2.out.kept hb)
    have RD := Lib.hid (row_kept RD.out hb)
    have D1 := Lib.hid (D1.out.kept hb)
    have D2 := Lib.hid (D2.out.kept hb)
    have HB := Lib.hid (HB.out.trans (hb.mono HB.out.size))
    clear hb hp13
    obtain ⟨be, hbe⟩ : ∃ be, be = w12.heap.size := ⟨_, rfl⟩
    rw [← hbe] at RE ⊢
    clear hbe
    have K16 := Lib.hid (earned_any false (rowL da n) (rowL db n) n n c1 c2 a1 a2 (j : Int) v py gt w13 (rowL_len _ _) (rowL_len _ _) HFN.out HFN.out HVL.out HLT.out.2 HLT.out.1 (by rw [← rowN_vI]; exact D1.out) (by rw [← rowN_vI]; exact D2.out))
    obtain ⟨x0, x1, x2, x3⟩ := CEL.out w13 RD.out
    go_wp2_with fail
    refine K16.out.mono ?_
    rintro e w14 ⟨rfl, hi, hb⟩
    have HI := Lib.hid hi
    have K17 := Lib.hid (n01.sign_any (w13.heap.size + 1) _ w14 hi)
    have RE := Lib.hid (row_kept RE.out hb)
    have E1 := Lib.hid (E1.out.kept hb)
    have E2 := Lib.hid (E2.out.kept hb)
    have HB := Lib.hid (HB.out.trans (hb.mono HB.out.size))
    clear hb hi K16 x0 x1 x2 x3 RD D1 D2
    have K16 := Lib.hid (earned_any false (rowL da' n') (rowL db' n') n' n' f3 f4 e1 e2 (j : Int) v py' gt' w14 (rowL_len _ _) (rowL_len _ _) HFW'.out HFW'.out HVL.out HLT'.out.2 HLT'.out.1 (by rw [← rowN_vI]; exact E1.out) (by rw [← rowN_vI]; exact E2.out))
    have HEB := Lib.hid (show (earnZ false (rowL da n) (rowL db n) (j : Int) v py gt).natAbs < 18446744073709551616 ∧ (earnZ false (rowL da' n') (rowL db' n') (j : Int) v py' gt').natAbs < 18446744073709551616 from
      ⟨earn_abs HVL.out HLT.out.2 HLT.out.1, earn_abs HVL.out HLT'.out.2 HLT'.out.1⟩)
    generalize earnZ false (rowL da n) (rowL db n) (j : Int) v py gt = z1 at *
    generalize earnZ false (rowL da' n') (rowL db' n') (j : Int) v py' gt' = z2 at *
    have s0 : decide (0 ≤ n01.sgn z1) = true := decide_eq_true (by have := HTB.out.1; unfold n01.sgn; split <;> (try split) <;> omega)
    have HCM := Lib.hid (show 0 ≤ n01.cmpI z1 z2 by have := HTB.out.2; unfold n01.cmpI; split <;> (try split) <;> omega)
    generalize n01.sgn z1 = sg at *
    have CE2 := Lib.hid (show ∀ V : World, V.heap[be]? = some (.cells (dlA e1 f3 e2 f4 n' py' gt') 27) → V.cell? ⟨be, 0, none⟩ = some (.slice e1 n' f3) ∧ V.cell? ⟨be, 1, none⟩ = some (.slice e2 n' f4) ∧ V.cell? ⟨be, 2, none⟩ = some (.int .u64 py') ∧ V.cell? ⟨be, 3, none⟩ = some (.int .u64 gt') from fun V h => by
      refine ⟨?_, ?_, ?_, ?_⟩ <;> (rw [cell_of_row _ _ _ _ _ _ h]; rfl))
    obtain ⟨x0, x1, x2, x3⟩ := CE2.out w14 RE.out
    go_wp2_with (first
      | (go_at_call 17; (with_reducible refine K17.out.mono ?_); rintro e w15 ⟨rfl, rfl⟩))
    refine K16.out.mono ?_
    rintro e w16 ⟨rfl, hi, hb⟩
    have K14 := Lib.hid (n01.cmp_any _ _ _ _ w16 (HI.out.kept hb) hi (pw_bound _ (by have := HEB.out; omega)) (pw_bound _ (by have := HEB.out; omega)))
    have HB := Lib.hid (HB.out.trans (hb.mono HB.out.size))
    clear hi hb K16 K17 x0 x1 x2 x3
    generalize n01.cmpI z1 z2 = cz at *
    have s1 : decide (0 ≤ cz) = true := decide_eq_true HCM.out
    go_wp2_with fail
    refine K14.out.mono ?_
    rintro e w17 ⟨rfl, hq⟩
    have HB := Lib.hid (HB.out.trans ((hq.below _).mono HB.out.size))
    clear hq K14
    go_wp2
    go_ret
    exact ⟨rfl, HB.out⟩
theorem own : ownKnob Try.prog.godebug = none := by kernel_rfl
theorem laidOut : laidOutB Try.prog = true := by kernel_rfl
set_option maxRecDepth 100000 in
theorem lifted (os : Os) (started : os.Started) (H : Type) (enc : TypeId × Value → H) :
    ReturnsInHanded {} Try.checked os 4 .any (Rows.callTrueSpec.pre6 enc Try.prog Try.f4 Rows.callTrueRow.domain false) (Rows.callTrueSpec.post enc Try.prog Try.f4 false true false false) := by
  refine returnsInHanded_of_change_sized (C := Try.checked) own started (by kernel_rfl) Try.func4
    (ChangeSpec.witness6 (enc := enc) (C := Try.checked) false ⟨#[], #[.slice none 0 0, .slice none 0 0, .bool false, .int .i64 0, .int .u64 0], []⟩ 8 (by kernel_rfl) (by kernel_rfl) (by kernel_rfl) (by kernel_rfl)) ?_
  intro W base args ds gs before hval0 hW hcnd hsz0 _
  have hsz : (DataW.weightsEach Try.prog (Try.f4.params.toList ++ Rows.callTrueSpec.plain.varTypes Try.prog) (ds ++ gs)).all (· ≤ reachBytes) = true := hsz0
  clear hsz0
  have hval : ∀ (j : Nat) t v, Try.f4.params[j]? = some t → args[j]? = some v → Value.okWide Try.prog W .any base t v := hval0
  have hW' := hW
  obtain ⟨p, q, hA0, hV, rfl, hfz, hnd⟩ := hW
  have hA : DataW.TrodAll enc Try.prog W 0 (fun _ => true) true Try.f4.params.toList args.toList ds p := hA0
  rw [Try.params4] at hA hval hsz
  obtain ⟨v0, vs0, d0, ds0, p0, q0, hargs, rfl, rfl, h0, r0⟩ := trodAll_cons hA
  obtain ⟨v1, vs1, d1, ds1, p1, q1, rfl, rfl, rfl, h1, r1⟩ := trodAll_cons r0
  obtain ⟨v2, vs2, d2, ds2, p2, q2, rfl, rfl, rfl, h2, r2⟩ := trodAll_cons r1
  obtain ⟨v3, vs3, d3, ds3, p3, q3, rfl, rfl, rfl, h3, r3⟩ := trodAll_cons r2
  obtain ⟨v4, vs4, d4, ds4, p4, q4, rfl, rfl, rfl, h4, r4⟩ := trodAll_cons r3
  obtain ⟨rfl, rfl, rfl⟩ := trodAll_nil r4
  obtain rfl : args = #[v0, v1, v2, v3, v4] := by cases args; simp_all
  obtain ⟨rfl, rfl⟩ := trodVars_none hV
  obtain ⟨a0, len0, cap0, rfl⟩ := okWide_slice Try.underlying22 (hval 0 22 v0 rfl rfl)
  have k0 := h0
  have lt0 : ∀ x ∈ p0, x.block < W.heap.size := by obtain ⟨m, hm⟩ := k0; exact DataW.trod_lt m _ _ _ hm
  obtain ⟨l0, rfl, s0, n0, m0, z0⟩ := open_u64s h0 hsz (j := 0) rfl rfl
  obtain ⟨a1, len1, cap1, rfl⟩ := okWide_slice Try.underlying22 (hval 1 22 v1 rfl rfl)
  have k1 := h1
  have lt1 : ∀ x ∈ p1, x.block < W.heap.size := by obtain ⟨m, hm⟩ := k1; exact DataW.trod_lt m _ _ _ hm
  obtain ⟨l1, rfl, s1, n1, m1, z1⟩ := open_u64s h1 hsz (j := 1) rfl rfl
  obtain ⟨a2, rfl, rfl, rfl⟩ := open_bool Try.underlying4 (hval 2 4 v2 rfl rfl) h2
  obtain ⟨a3, rfl, rfl, rfl, w3⟩ := open_int Try.underlying3 (hval 3 3 v3 rfl rfl) h3
  have b3 := i64_of_wf w3
  obtain ⟨a4, rfl, rfl, rfl, w4⟩ := open_int Try.underlying23 (hval 4 23 v4 rfl rfl) h4
  obtain ⟨x4, rfl⟩ := u64_of_wf w4
  clear hA0 hval0
  refine (walk a0 cap0 l0 a1 cap1 l1 a2 a3 x4 W s0 n0 m0 z0 s1 n1 m1 z1 b3).mono fun e W' ⟨he, bel⟩ => ?_
  subst he
  exact ⟨_, rfl, _, _, _, [], _, [], hW', trodAll_mk1 (shut_bool Try.underlying4 _), (trodAll_cons_mk (Below.trod laidOut (by kernel_rfl) (of_decide_eq_true (by kernel_rfl)) k0 bel lt0) (trodAll_cons_mk (Below.trod laidOut (by kernel_rfl) (of_decide_eq_true (by kernel_rfl)) k1 bel lt1) (trodAll_cons_mk (shut_bool Try.underlying4 a2) (trodAll_cons_mk (shut_int Try.underlying3 w3) (trodAll_cons_mk (shut_int Try.underlying23 w4) trodAll_mk0))))), rfl, bel.frame _, fun h => by cases h⟩
theorem over : Rows.callTrueRow.holds Try.pinned (OpenSpec.ofChange Rows.callTrueSpec) :=
  OpenClaim.holds_of_wide 4 Try.f4 rfl rfl rfl rfl rfl rfl rfl ⟨rfl, rfl, rfl, rfl, rfl⟩ rfl rfl rfl rfl rfl (by kernel_rfl) Try.func4 (by kernel_rfl)
    (of_decide_eq_true (by kernel_rfl)) (by unfold Func.isWrapper; first | (rw [if_pos (by decide +kernel)]; kernel_rfl) | (rw [if_neg (by decide +kernel)]; exact ⟨rfl, rfl⟩))
    (fun os started H enc _ => lifted os started H enc)
theorem proved : Rows.CallTrueSaid := over
#print axioms proved
end Go.Proofs.Ytbggibdldadpiaa.lawCallTrue
