/-
  Of whatever asks and bids: every Clear, Strict and Gain is the document's; the lists stay; and again, when the same memory holds others.
  No condition beyond the statement's own.
-/
import Derived.Test.YtbggibdldadpiaaJd
import Derived.Deep.RegionHeld3
import Derived.StillTailTactics
namespace Go.Proofs.Ytbggibdldadpiaa.lawCallClears
open Go.RowKit Go.K Go.ChangeShapes Go.WideShapes Go.ChangeAt
set_option linter.unusedVariables false
set_option linter.unusedSimpArgs false
theorem one_i64 (z : Int) : ∀ u ∈ [Value.int .i64 z], u.oneCell' = true := by
  intro u hu
  rw [List.mem_singleton.1 hu]; rfl
/-- What stands while the answers are compared. -/
structure CC (p q : List (BitVec 64)) (x y : List Int) (g9 c9 g10 c10 : Nat) (aa bb ua va : Option Addr) (bc bs : Nat) (da db : Nat → Nat) (k pr n2 py gt : Nat) (a1 a2 e1 e2 : Option Addr) (c1 c2 f1 f2 : Nat) (w V : World) : Prop where
  la : LentQ V p g9 c9
  lb : LentQ V q g10 c10
  sas : Sl V aa (vQ p)
  sbs : Sl V bb (vQ q)
  su : Sl V ua (vI x ++ [.int .i64 7])
  sv : Sl V va (vI y ++ [.int .i64 7])
  rc : V.heap[bc]? = some (.cells (dlA a1 c1 a2 c2 k pr pr) 27)
  rs : V.heap[bs]? = some (.cells (dlA e1 f1 e2 f2 n2 py gt) 27)
  d1 : Sl V a1 (rowN da k)
  d2 : Sl V a2 (rowN db k)
  s1 : Sl V e1 (rowN da n2)
  s2 : Sl V e2 (rowN db n2)
  bel : Below w.heap.size w V
theorem CC.kept {p q : List (BitVec 64)} {x y : List Int} {g9 c9 g10 c10 : Nat} {aa bb ua va : Option Addr} {bc bs : Nat} {da db : Nat → Nat} {k pr n2 py gt : Nat} {a1 a2 e1 e2 : Option Addr} {c1 c2 f1 f2 : Nat} {w V V' : World}
    (h : CC p q x y g9 c9 g10 c10 aa bb ua va bc bs da db k pr n2 py gt a1 a2 e1 e2 c1 c2 f1 f2 w V) (hb : Below V.heap.size V V') : CC p q x y g9 c9 g10 c10 aa bb ua va bc bs da db k pr n2 py gt a1 a2 e1 e2 c1 c2 f1 f2 w V' :=
  ⟨h.la.kept hb, h.lb.kept hb, h.sas.kept hb, h.sbs.kept hb, h.su.kept hb, h.sv.kept hb, row_kept h.rc hb, row_kept h.rs hb, h.d1.kept hb, h.d2.kept hb, h.s1.kept hb, h.s2.kept hb, h.bel.trans (hb.mono h.bel.size)⟩
theorem CC.cells {p q : List (BitVec 64)} {x y : List Int} {g9 c9 g10 c10 : Nat} {aa bb ua va : Option Addr} {bc bs : Nat} {da db : Nat → Nat} {k pr n2 py gt : Nat} {a1 a2 e1 e2 : Option Addr} {c1 c2 f1 f2 : Nat} {w V : World}
    (h : CC p q x y g9 c9 g10 c10 aa bb ua va bc bs da db k pr n2 py gt a1 a2 e1 e2 c1 c2 f1 f2 w V) :
    V.cell? ⟨bc, 0, none⟩ = some (.slice a1 k c1) ∧ V.cell? ⟨bc, 1, none⟩ = some (.slice a2 k c2) ∧ V.cell? ⟨bc, 2, none⟩ = some (.int .u64 pr) ∧ V.cell? ⟨bc, 3, none⟩ = some (.int .u64 pr) ∧
    V.cell? ⟨bs, 0, none⟩ = some (.slice e1 n2 f1) ∧ V.cell? ⟨bs, 1, none⟩ = some (.slice e2 n2 f2) ∧ V.cell? ⟨bs, 2, none⟩ = some (.int .u64 py) ∧ V.cell? ⟨bs, 3, none⟩ = some (.int .u64 gt) := by
  refine ⟨?_, ?_, ?_, ?_, ?_, ?_, ?_, ?_⟩
  iterate 4 (first | (rw [cell_of_row _ _ _ _ _ _ h.rc]; rfl) | skip)
  all_goals (first | (rw [cell_of_row _ _ _ _ _ _ h.rs]; rfl) | (rw [cell_of_row _ _ _ _ _ _ h.rc]; rfl))
theorem mark_at {W : World} {a : Option Addr} {l : List Int} (h : Sl W a (vI l ++ [.int .i64 7])) : ∃ b o, a = some ⟨b, o, none⟩ ∧ W.cell? ⟨b, o + l.length, none⟩ = some (.int .i64 7) := by
  obtain ⟨b, o, he, hc⟩ := h (by simp)
  refine ⟨b, o, he, ?_⟩
  rw [hc l.length (by simp [vI_length])]
  rw [List.getElem?_append_right (by rw [vI_length]; exact Nat.le_refl _), vI_length, Nat.sub_self]; rfl
theorem mark_cell {W : World} {b o : Nat} {l : List Int} (h : Sl W (some ⟨b, o, none⟩) (vI l ++ [.int .i64 7])) : W.cell? ⟨b, o + l.length, none⟩ = some (.int .i64 7) := by
  obtain ⟨b2, o2, he, hc⟩ := mark_at h
  injection he with he
  injection he with e1 e2 e3
  rw [e1, e2]; exact hc
theorem wide_small {N : Nat} (h : N < 340282366920938463463374607431768211456) : n01.wideV N = .tuple #[.int .u64 ((N / 18446744073709551616 : Nat) : Int), .int .u64 ((N % 18446744073709551616 : Nat) : Int), .bool true] := by
  rw [n01.wideV_yes h]
  unfold U64
  rw [BitVec.toNat_ofNat, BitVec.toNat_ofNat]
  have : N / 18446744073709551616 % 2 ^ 64 = N / 18446744073709551616 := Nat.mod_eq_of_lt (by omega)
  rw [this]
set_option maxRecDepth 100000 in
set_option maxHeartbeats 4000000 in
theorem walk (a : Option Addr) (c : Nat) (xs : List (BitVec 64)) (b : Option Addr) (d : Nat) (ys : List (BitVec 64)) (xa : Option Addr) (xc : Nat) (x : List Int) (ya : Option Addr) (yc : Nat) (y : List Int) (w : World)
    (hs1 : Sl w a (vQ xs)) (hn1 : xs.length ≤ c) (hm1 : c ≤ 17592186043904) (hz1 : a = none → xs.length = 0 ∧ c = 0) (hs2 : Sl w b (vQ ys)) (hn2 : ys.length ≤ d) (hm2 : d ≤ 17592186043904) (hz2 : b = none → ys.length = 0 ∧ d = 0)
    (hs3 : Sl w xa (vI x)) (hn3 : x.length ≤ xc) (hm3 : xc ≤ 17592186043904) (hz3 : xa = none → x.length = 0 ∧ xc = 0) (hs4 : Sl w ya (vI y)) (hn4 : y.length ≤ yc) (hm4 : yc ≤ 17592186043904) (hz4 : ya = none → y.length = 0 ∧ yc = 0) :
    Calls Try.prog 5 #[.slice a xs.length c, .slice b ys.length d, .slice xa x.length xc, .slice ya y.length yc] w fun e w' => e = .returned (.bool true) ∧ Below w.heap.size w w' := by
  by_cases g1 : 3000 < xs.length
  · have t1 : decide (3000 < (xs.length : Int)) = true := decide_eq_true (by omega)
    clear hn1 hm1 hn2 hm2 hn3 hm3 hn4 hm4 g1
    go_enter Try.func5, Try.ntmps5
    go_wp2
    go_ret
    exact ⟨rfl, Below.refl _ _⟩
  have t1 : decide (3000 < (xs.length : Int)) = false := decide_eq_false (by omega)
  by_cases g2 : 3000 < ys.length
  · have t2 : decide (3000 < (ys.length : Int)) = true := decide_eq_true (by omega)
    clear hn1 hm1 hn2 hm2 hn3 hm3 hn4 hm4 g1 g2
    go_enter Try.func5, Try.ntmps5
    go_wp2
    go_ret
    exact ⟨rfl, Below.refl _ _⟩
  have t2 : decide (3000 < (ys.length : Int)) = false := decide_eq_false (by omega)
  have HN := Lib.hid (show xs.length ≤ 3000 ∧ ys.length ≤ 3000 ∧ x.length ≤ 17592186043904 ∧ y.length ≤ 17592186043904 by omega)
  have HLX := Lib.hid (lent_any a c xs w (by omega) hz1 hs1)
  have HLY := Lib.hid (fun V (hV : Below w.heap.size w V) => lent_any b d ys V (by omega) hz2 (hs2.kept hV))
  have HS3 := Lib.hid hs3
  have HS4 := Lib.hid hs4
  have HZ3 := Lib.hid hz3
  have HZ4 := Lib.hid hz4
  have xn : (x.length : Int) ≤ 17592186043904 := by omega
  have yn : (y.length : Int) ≤ 17592186043904 := by omega
  clear hs1 hn1 hm1 hz1 hs2 hn2 hm2 hz2 hs3 hn3 hm3 hz3 hs4 hn4 hm4 hz4 g1 g2
  have M0 := Lib.hid (show ∀ n, n ≤ 3000 → 0 + n ≤ maxLen ∧ (0 + n) * 8 ≤ 140737488355328 from fun n h => by unfold maxLen; omega)
  have M1 := Lib.hid (show ∀ n, n ≤ 17592186043904 → 0 + n ≤ maxLen ∧ (0 + n) * 8 ≤ 140737488355328 ∧ n + 1 ≤ maxLen ∧ (n + 1) * 8 ≤ 140737488355328 from fun n h => by unfold maxLen; omega)
  go_enter Try.func5, Try.ntmps5
  go_wp2_with (first
    | (go_at_call 9; (with_reducible refine HLX.out.mono ?_); rintro e w1 ⟨g9, c9, rfl, hg9, hl9, hb1⟩; have HL9 := Lib.hid hl9; have HB1 := Lib.hid hb1; clear hl9 hb1)
    | (go_at_call 9; (with_reducible refine (HLY.out _ HB1.out).mono ?_); rintro e w2 ⟨g10, c10, rfl, hg10, hl10, hb2⟩; have HB2 := Lib.hid (HB1.out.trans (hb2.mono HB1.out.size)); have HLA := Lib.hid (HL9.out.kept hb2); have HLB := Lib.hid hl10; have HGG := Lib.hid (show w.heap.size ≤ g9 ∧ g9 < g10 by have := HL9.out.lt; omega); clear hl10 hb2 hg10 hg9))
  clear HL9 HB1 HLX HLY
  go_loopw [11] (fun x11 V => ∃ (t : Nat) (p q : List (BitVec 64)), t ≤ 3 ∧ x11 = .int .i64 t ∧ p.length = xs.length ∧ q.length = ys.length ∧ LentQ V p g9 c9 ∧ LentQ V q g10 c10 ∧ Below w.heap.size w V) (fun x11 _ => 3 - (intOf x11).toNat)
  case atStart => exact ⟨0, xs, ys, Nat.zero_le _, rfl, rfl, rfl, HLA.out, HLB.out, HB2.out⟩
  case round =>
    clear HLA HLB HB2
    obtain ⟨t, p, q, ht, rfl, hp, hq, hla, hlb, hbl⟩ := hrel
    have HP := Lib.hid hp
    have HQ := Lib.hid hq
    have LA := Lib.hid hla
    have LB := Lib.hid hlb
    have HB := Lib.hid hbl
    clear hp hq hla hlb hbl
    obtain ⟨wt, h⟩ : ∃ W, W = wr := ⟨_, rfl⟩
    subst h
    by_cases h3 : t < 3
    case neg =>
      have t3 : decide ((t : Int) < 3) = false := decide_eq_false (by omega)
      clear h3
      go_wp2
      go_ret
      exact ⟨rfl, HB.out⟩
    have t3 : decide ((t : Int) < 3) = true := decide_eq_true (by omega)
    have HT := Lib.hid h3
    have XS := Lib.hid (HS3.out.kept HB.out)
    have YS := Lib.hid (HS4.out.kept HB.out)
    clear h3 ht
    go_wp2_with (at_builtin; refine wpList_append_sl rfl _ _ 22 rfl wt.heap.size 23 (.int .u64 0) 1 8 Try.underlying22 Try.info23 rfl (by decide) _ 0 [] rfl (World.ownsRow_nil _ _ _ _) (some ⟨g9, 0, none⟩) xs.length c9 (vQ p) rfl (fun h => by cases h) (by rw [vQ_length]; have := HP.out; omega) LA.out.sl (oneCell_vQ p) (M0.out xs.length HN.out.1).1 (M0.out xs.length HN.out.1).2 (Nat.le_refl _) ?f1)
    intro v1 w1 ho hg
    have hb : Below wt.heap.size wt w1 := (Below.refl _ _).grown hg (Nat.le_refl _) (fun k hk => by cases hk)
    obtain ⟨aa, ac, rfl, _, hsl, _⟩ := app_slice (show w1.ownsRow wt.heap.size _ 1 _ xs.length (vQ p) by simpa using ho) (by rw [vQ_length]; exact HP.out)
    have LA := Lib.hid (LA.out.kept hb)
    have LB := Lib.hid (LB.out.kept hb)
    have XS := Lib.hid (XS.out.kept hb)
    have YS := Lib.hid (YS.out.kept hb)
    have HB := Lib.hid (HB.out.trans (hb.mono HB.out.size))
    have SAS := Lib.hid hsl
    clear ho hg hb hsl
    go_wp2_with (at_builtin; refine wpList_append_sl rfl _ _ 22 rfl w1.heap.size 23 (.int .u64 0) 1 8 Try.underlying22 Try.info23 rfl (by decide) _ 0 [] rfl (World.ownsRow_nil _ _ _ _) (some ⟨g10, 0, none⟩) ys.length c10 (vQ q) rfl (fun h => by cases h) (by rw [vQ_length]; have := HQ.out; omega) LB.out.sl (oneCell_vQ q) (M0.out ys.length HN.out.2.1).1 (M0.out ys.length HN.out.2.1).2 (Nat.le_refl _) ?f2)
    intro v2 w2 ho hg
    have hb : Below w1.heap.size w1 w2 := (Below.refl _ _).grown hg (Nat.le_refl _) (fun k hk => by cases hk)
    obtain ⟨bb, bc0, rfl, _, hsl, _⟩ := app_slice (show w2.ownsRow w1.heap.size _ 1 _ ys.length (vQ q) by simpa using ho) (by rw [vQ_length]; exact HQ.out)
    have LA := Lib.hid (LA.out.kept hb)
    have LB := Lib.hid (LB.out.kept hb)
    have XS := Lib.hid (XS.out.kept hb)
    have YS := Lib.hid (YS.out.kept hb)
    have SAS := Lib.hid (SAS.out.kept hb)
    have HB := Lib.hid (HB.out.trans (hb.mono HB.out.size))
    have SBS := Lib.hid hsl
    clear ho hg hb hsl
    go_wp2_with (at_builtin; refine wpList_append_sl rfl _ _ 24 rfl w2.heap.size 3 (.int .i64 0) 1 8 Try.underlying24 infoI rfl (by decide) _ 0 [] rfl (World.ownsRow_nil _ _ _ _) xa x.length xc (vI x) rfl HZ3.out (by rw [vI_length]; omega) XS.out (oneCell_vI x) (M1.out x.length HN.out.2.2.1).1 (M1.out x.length HN.out.2.2.1).2.1 (Nat.le_refl _) ?f3)
    intro v3 w3 ho hg
    have hb : Below w2.heap.size w2 w3 := (Below.refl _ _).grown hg (Nat.le_refl _) (fun k hk => by cases hk)
    have HO := Lib.hid (show w3.ownsRow w2.heap.size 3 1 v3 x.length (vI x) by simpa using ho)
    have HBB := Lib.hid hb
    have HSZ := Lib.hid (show w2.heap.size ≤ (w3.alloc (.cells #[.int .i64 7] 3)).heap.size by have := hb.size; simp; omega)
    clear ho hg hb
    go_wp2_with (at_builtin; refine wpList_append_sl rfl _ _ 24 rfl w2.heap.size 3 (.int .i64 0) 1 8 Try.underlying24 infoI rfl (by decide) v3 x.length (vI x) rfl (HO.out.alloc _) (some ⟨w3.heap.size, 0, none⟩) 1 1 [.int .i64 7] rfl (fun h => by cases h) rfl (sl_new w3 [.int .i64 7] 3 (0, 0)) (one_i64 7) (M1.out x.length HN.out.2.2.1).2.2.1 (M1.out x.length HN.out.2.2.1).2.2.2 HSZ.out ?f4)
    intro v4 w4 ho hg
    have hb : Below w2.heap.size w2 w4 := (HBB.out.alloc HBB.out.size _).grown hg HSZ.out (fun j hj => (HO.out.lt j hj).1)
    obtain ⟨ua, uc, rfl, hcp, hsl, _⟩ := app_slice ho (by simp [vI_length])
    have LA := Lib.hid (LA.out.kept hb)
    have LB := Lib.hid (LB.out.kept hb)
    have XS := Lib.hid (XS.out.kept hb)
    have YS := Lib.hid (YS.out.kept hb)
    have SAS := Lib.hid (SAS.out.kept hb)
    have SBS := Lib.hid (SBS.out.kept hb)
    have HB := Lib.hid (HB.out.trans (hb.mono HB.out.size))
    have SU := Lib.hid hsl
    have cua : (x.length : Int) ≤ (uc : Int) := by omega
    have dua : ((x.length + 1 : Nat) : Int) ≤ (uc : Int) := by omega
    clear ho hg hb hsl HO HBB HSZ hcp
    go_wp2_with (at_builtin; refine wpList_append_sl rfl _ _ 24 rfl w4.heap.size 3 (.int .i64 0) 1 8 Try.underlying24 infoI rfl (by decide) _ 0 [] rfl (World.ownsRow_nil _ _ _ _) ya y.length yc (vI y) rfl HZ4.out (by rw [vI_length]; omega) YS.out (oneCell_vI y) (M1.out y.length HN.out.2.2.2).1 (M1.out y.length HN.out.2.2.2).2.1 (Nat.le_refl _) ?f5)
    intro v5 w5 ho hg
    have hb : Below w4.heap.size w4 w5 := (Below.refl _ _).grown hg (Nat.le_refl _) (fun k hk => by cases hk)
    have HO := Lib.hid (show w5.ownsRow w4.heap.size 3 1 v5 y.length (vI y) by simpa using ho)
    have HBB := Lib.hid hb
    have HSZ := Lib.hid (show w4.heap.size ≤ (w5.alloc (.cells #[.int .i64 7] 3)).heap.size by have := hb.size; simp; omega)
    clear ho hg hb
    go_wp2_with (at_builtin; refine wpList_append_sl rfl _ _ 24 rfl w4.heap.size 3 (.int .i64 0) 1 8 Try.underlying24 infoI rfl (by decide) v5 y.length (vI y) rfl (HO.out.alloc _) (some ⟨w5.heap.size, 0, none⟩) 1 1 [.int .i64 7] rfl (fun h => by cases h) rfl (sl_new w5 [.int .i64 7] 3 (0, 0)) (one_i64 7) (M1.out y.length HN.out.2.2.2).2.2.1 (M1.out y.length HN.out.2.2.2).2.2.2 HSZ.out ?f6)
    intro v6 w6 ho hg
    have hb : Below w4.heap.size w4 w6 := (HBB.out.alloc HBB.out.size _).grown hg HSZ.out (fun j hj => (HO.out.lt j hj).1)
    obtain ⟨va, vc, rfl, hcp, hsl, _⟩ := app_slice ho (by simp [vI_length])
    have LA := Lib.hid (LA.out.kept hb)
    have LB := Lib.hid (LB.out.kept hb)
    have XS := Lib.hid (XS.out.kept hb)
    have YS := Lib.hid (YS.out.kept hb)
    have SAS := Lib.hid (SAS.out.kept hb)
    have SBS := Lib.hid (SBS.out.kept hb)
    have SU := Lib.hid (SU.out.kept hb)
    have HB := Lib.hid (HB.out.trans (hb.mono HB.out.size))
    have SV := Lib.hid hsl
    have cva : (y.length : Int) ≤ (vc : Int) := by omega
    have dva : ((y.length + 1 : Nat) : Int) ≤ (vc : Int) := by omega
    clear ho hg hb hsl HO HBB HSZ hcp
    have K8 := Lib.hid (clear_any p q (some ⟨g9, 0, none⟩) (some ⟨g10, 0, none⟩) c9 c10 w6 (by have := HP.out; have := HN.out; omega) (by have := HQ.out; have := HN.out; omega) LA.out.sl LB.out.sl)
    rw [HP.out, HQ.out] at K8
    go_wp2_with fail
    refine K8.out.mono ?_
    rintro e w7 ⟨v7, rfl, ⟨da, db, k, hza, hzb, hk, hd⟩, hb⟩
    obtain ⟨a1, c1, a2, c2, rfl, h1, h2⟩ := hd.parts
    have HZA := Lib.hid hza
    have HZB := Lib.hid hzb
    have HK := Lib.hid hk
    have D1 := Lib.hid h1
    have D2 := Lib.hid h2
    have LA := Lib.hid (LA.out.kept hb)
    have LB := Lib.hid (LB.out.kept hb)
    have XS := Lib.hid (XS.out.kept hb)
    have YS := Lib.hid (YS.out.kept hb)
    have SAS := Lib.hid (SAS.out.kept hb)
    have SBS := Lib.hid (SBS.out.kept hb)
    have SU := Lib.hid (SU.out.kept hb)
    have SV := Lib.hid (SV.out.kept hb)
    have HB := Lib.hid (HB.out.trans (hb.mono HB.out.size))
    clear hza hzb hk hd h1 h2 hb K8
    generalize hpr : priceV p q da db k = pr at *
    have HPR := Lib.hid hpr
    clear hpr
    go_wp2_with ((with_reducible refine at_store_op ?_); refine wpList_store_lit 27 w7.heap.size 0 (dlA a1 c1 a2 c2 k pr pr) (.agg (dlA a1 c1 a2 c2 k pr pr)) (cur := #[.slice none 0 0, .slice none 0 0, .int .u64 0, .int .u64 0]) (t := 27) (alloc_at rfl) sz27 (Nat.le_of_ble_eq_true rfl) rfl rfl ?_ ?_ ?_; exact rfl; exact rfl; intro w8 hp8)
    have hb : Below w7.heap.size w7 w8 := hp8.below ((Below.refl _ _).alloc (Nat.le_refl _) _) (by simp) (Nat.le_refl _)
    have RC := Lib.hid hp8.at'
    have LA := Lib.hid (LA.out.kept hb)
    have LB := Lib.hid (LB.out.kept hb)
    have XS := Lib.hid (XS.out.kept hb)
    have YS := Lib.hid (YS.out.kept hb)
    have SAS := Lib.hid (SAS.out.kept hb)
    have SBS := Lib.hid (SBS.out.kept hb)
    have SU := Lib.hid (SU.out.kept hb)
    have SV := Lib.hid (SV.out.kept hb)
    have D1 := Lib.hid (D1.out.kept hb)
    have D2 := Lib.hid (D2.out.kept hb)
    have HB := Lib.hid (HB.out.trans (hb.mono HB.out.size))
    clear hb hp8
    have K15 := Lib.hid (strict_any p q (some ⟨g9, 0, none⟩) (some ⟨g10, 0, none⟩) c9 c10 w8 (by have := HP.out; have := HN.out; omega) (by have := HQ.out; have := HN.out; omega) LA.out.sl LB.out.sl)
    rw [HP.out, HQ.out] at K15
    go_wp2_with fail
    refine K15.out.mono ?_
    rintro e w9 ⟨v9, rfl, ⟨da2, db2, k2, hza, hzb, hk, hd⟩, hb⟩
    have e1 := rankz_unique HZA.out hza
    have e2 := rankz_unique HZB.out hzb
    subst e1 e2
    have e3 := kv_unique HK.out hk
    subst e3
    obtain ⟨e1, f1, e2, f2, rfl, h1, h2⟩ := hd.parts
    have E1 := Lib.hid h1
    have E2 := Lib.hid h2
    have LA := Lib.hid (LA.out.kept hb)
    have LB := Lib.hid (LB.out.kept hb)
    have XS := Lib.hid (XS.out.kept hb)
    have YS := Lib.hid (YS.out.kept hb)
    have SAS := Lib.hid (SAS.out.kept hb)
    have SBS := Lib.hid (SBS.out.kept hb)
    have SU := Lib.hid (SU.out.kept hb)
    have SV := Lib.hid (SV.out.kept hb)
    have D1 := Lib.hid (D1.out.kept hb)
    have D2 := Lib.hid (D2.out.kept hb)
    have HB := Lib.hid (HB.out.trans (hb.mono HB.out.size))
    have RC := Lib.hid (row_kept RC.out hb)
    clear hza hzb hk hd h1 h2 hb K15
    obtain ⟨n2, hn2⟩ : ∃ n2, n2 = stN p q da db k := ⟨_, rfl⟩
    obtain ⟨py, hpy⟩ : ∃ py, py = stPay p q da db k := ⟨_, rfl⟩
    obtain ⟨gt, hgt⟩ : ∃ gt, gt = stGet p q da db k := ⟨_, rfl⟩
    rw [← hn2] at E1 E2 ⊢
    rw [← hpy, ← hgt]
    have HST := Lib.hid (show n2 = stN p q da db k ∧ py = stPay p q da db k ∧ gt = stGet p q da db k from ⟨hn2, hpy, hgt⟩)
    clear hn2 hpy hgt
    go_wp2_with ((with_reducible refine at_store_op ?_); refine wpList_store_lit 27 w9.heap.size 0 (dlA e1 f1 e2 f2 n2 py gt) (.agg (dlA e1 f1 e2 f2 n2 py gt)) (cur := #[.slice none 0 0, .slice none 0 0, .int .u64 0, .int .u64 0]) (t := 27) (alloc_at rfl) sz27 (Nat.le_of_ble_eq_true rfl) rfl rfl ?_ ?_ ?_; exact rfl; exact rfl; intro w10 hp10)
    have hb : Below w9.heap.size w9 w10 := hp10.below ((Below.refl _ _).alloc (Nat.le_refl _) _) (by simp) (Nat.le_refl _)
    have RS := Lib.hid hp10.at'
    have LA := Lib.hid (LA.out.kept hb)
    have LB := Lib.hid (LB.out.kept hb)
    have XS := Lib.hid (XS.out.kept hb)
    have YS := Lib.hid (YS.out.kept hb)
    have SAS := Lib.hid (SAS.out.kept hb)
    have SBS := Lib.hid (SBS.out.kept hb)
    have SU := Lib.hid (SU.out.kept hb)
    have SV := Lib.hid (SV.out.kept hb)
    have D1 := Lib.hid (D1.out.kept hb)
    have D2 := Lib.hid (D2.out.kept hb)
    have E1 := Lib.hid (E1.out.kept hb)
    have E2 := Lib.hid (E2.out.kept hb)
    have HB := Lib.hid (HB.out.trans (hb.mono HB.out.size))
    have RC := Lib.hid (row_kept RC.out hb)
    clear hb hp10
    have K18 := Lib.hid (gain_any p q x y (some ⟨g9, 0, none⟩) (some ⟨g10, 0, none⟩) ua va c9 c10 uc vc 0 0 w10 HN.out.2.2.1 HN.out.2.2.2 (by have := HP.out; have := HN.out; omega) (by have := HQ.out; have := HN.out; omega) LA.out.sl LB.out.sl (Sl.pre SU.out) (Sl.pre SV.out))
    rw [HP.out, HQ.out] at K18
    have HGL := Lib.hid (gn_lt p q (gI x) (gI y) (min x.length y.length))
    have HGM := Lib.hid (show gn p q (gI x) (gI y) (min x.length y.length) < 340282366920938463463374607431768211456 by
      have h1 := HGL.out
      have h2 := Nat.mul_le_mul_right 18446744073709551616 (show min x.length y.length ≤ 17592186043904 by have := HN.out; omega)
      omega)
    generalize hgn : gn p q (gI x) (gI y) (min x.length y.length) = G at *
    obtain ⟨gh, hgh⟩ : ∃ gh, gh = G / 18446744073709551616 := ⟨_, rfl⟩
    obtain ⟨gl, hgl⟩ : ∃ gl, gl = G % 18446744073709551616 := ⟨_, rfl⟩
    rw [← hgh, ← hgl] at K18
    have HGN := Lib.hid hgn
    have HGW := Lib.hid (show n01.wideV G = .tuple #[.int .u64 (gh : Int), .int .u64 (gl : Int), .bool true] by rw [hgh, hgl]; exact wide_small HGM.out)
    clear hgn hgh hgl
    go_wp2_with fail
    refine K18.out.mono ?_
    rintro e w11 ⟨rfl, hb⟩
    have LA := Lib.hid (LA.out.kept hb)
    have LB := Lib.hid (LB.out.kept hb)
    have XS := Lib.hid (XS.out.kept hb)
    have YS := Lib.hid (YS.out.kept hb)
    have SAS := Lib.hid (SAS.out.kept hb)
    have SBS := Lib.hid (SBS.out.kept hb)
    have SU := Lib.hid (SU.out.kept hb)
    have SV := Lib.hid (SV.out.kept hb)
    have D1 := Lib.hid (D1.out.kept hb)
    have D2 := Lib.hid (D2.out.kept hb)
    have E1 := Lib.hid (E1.out.kept hb)
    have E2 := Lib.hid (E2.out.kept hb)
    have HB := Lib.hid (HB.out.trans (hb.mono HB.out.size))
    have RC := Lib.hid (row_kept RC.out hb)
    have RS := Lib.hid (row_kept RS.out hb)
    clear hb K18
    have K13 := Lib.hid (rgain_any p q x y aa bb xa ya ac bc0 xc yc w11 HN.out.2.2.1 HN.out.2.2.2 (by have := HP.out; have := HN.out; omega) (by have := HQ.out; have := HN.out; omega) SAS.out SBS.out XS.out YS.out)
    rw [HP.out, HQ.out, HGN.out] at K13
    go_wp2_with fail
    refine K13.out.mono ?_
    rintro e w12 ⟨rfl, hi12, hb⟩
    have HI12 := Lib.hid hi12
    have LA := Lib.hid (LA.out.kept hb)
    have LB := Lib.hid (LB.out.kept hb)
    have XS := Lib.hid (XS.out.kept hb)
    have YS := Lib.hid (YS.out.kept hb)
    have SAS := Lib.hid (SAS.out.kept hb)
    have SBS := Lib.hid (SBS.out.kept hb)
    have SU := Lib.hid (SU.out.kept hb)
    have SV := Lib.hid (SV.out.kept hb)
    have D1 := Lib.hid (D1.out.kept hb)
    have D2 := Lib.hid (D2.out.kept hb)
    have E1 := Lib.hid (E1.out.kept hb)
    have E2 := Lib.hid (E2.out.kept hb)
    have HB := Lib.hid (HB.out.trans (hb.mono HB.out.size))
    have RC := Lib.hid (row_kept RC.out hb)
    have RS := Lib.hid (row_kept RS.out hb)
    clear hb hi12 K13
    have K19 := Lib.hid (n01.wide_any w11.heap.size G w12 HI12.out (by have := HGM.out; omega))
    rw [HGW.out] at K19
    go_wp2_with fail
    refine K19.out.mono ?_
    rintro e w13 ⟨rfl, hb⟩
    have LA := Lib.hid (LA.out.kept hb)
    have LB := Lib.hid (LB.out.kept hb)
    have XS := Lib.hid (XS.out.kept hb)
    have YS := Lib.hid (YS.out.kept hb)
    have SAS := Lib.hid (SAS.out.kept hb)
    have SBS := Lib.hid (SBS.out.kept hb)
    have SU := Lib.hid (SU.out.kept hb)
    have SV := Lib.hid (SV.out.kept hb)
    have D1 := Lib.hid (D1.out.kept hb)
    have D2 := Lib.hid (D2.out.kept hb)
    have E1 := Lib.hid (E1.out.kept hb)
    have E2 := Lib.hid (E2.out.kept hb)
    have HB := Lib.hid (HB.out.trans (hb.mono HB.out.size))
    have RC := Lib.hid (row_kept RC.out hb)
    have RS := Lib.hid (row_kept RS.out hb)
    clear hb K19 HI12
    have HC := Lib.hid (show CC p q x y g9 c9 g10 c10 aa bb ua va w7.heap.size w9.heap.size da db k pr n2 py gt a1 a2 e1 e2 c1 c2 f1 f2 w w13 from ⟨LA.out, LB.out, SAS.out, SBS.out, SU.out, SV.out, RC.out, RS.out, D1.out, D2.out, E1.out, E2.out, HB.out⟩)
    have SU0 := SU
    have SV0 := SV
    clear LA LB SAS SBS SU SV RC RS D1 D2 E1 E2 HB
    have HA0 := HC.out.kept (show Below w13.heap.size w13 w13.drew from (Qt.drewN _ 1).below _)
    have H21 := Lib.hid (show ∀ V, CC p q x y g9 c9 g10 c10 aa bb ua va w7.heap.size w9.heap.size da db k pr n2 py gt a1 a2 e1 e2 c1 c2 f1 f2 w V → Calls Try.prog 21 #[.slice aa xs.length ac, .slice bb ys.length bc0] V fun r V' => ∃ m1 n1 m2 n2', r = .returned (.agg #[.slice m1 k n1, .slice m2 k n2', .int .u64 pr, .int .u64 pr]) ∧ Sl V' m1 (rowN da k) ∧ Sl V' m2 (rowN db k) ∧ Below V.heap.size V V' from fun V h => by
      have K := rclear_any p q da db k HZA.out HZB.out HK.out aa bb ac bc0 V (by have := HP.out; have := HN.out; omega) (by have := HQ.out; have := HN.out; omega) h.sas h.sbs
      rw [HP.out, HQ.out, HPR.out] at K
      refine K.mono ?_
      rintro r V' ⟨v, rfl, ⟨m1, n1, m2, n2', rfl, q1, q2, _⟩, q3⟩
      exact ⟨m1, n1, m2, n2', rfl, q1, q2, q3⟩)
    have H22 := Lib.hid (show ∀ V, CC p q x y g9 c9 g10 c10 aa bb ua va w7.heap.size w9.heap.size da db k pr n2 py gt a1 a2 e1 e2 c1 c2 f1 f2 w V → Calls Try.prog 22 #[.slice aa xs.length ac, .slice bb ys.length bc0] V fun r V' => ∃ m1 n1 m2 n2', r = .returned (.agg #[.slice m1 n2 n1, .slice m2 n2 n2', .int .u64 py, .int .u64 gt]) ∧ Sl V' m1 (rowN da n2) ∧ Sl V' m2 (rowN db n2) ∧ Below V.heap.size V V' from fun V h => by
      have K := rstrict_any p q da db k HZA.out HZB.out HK.out aa bb ac bc0 V (by have := HP.out; have := HN.out; omega) (by have := HQ.out; have := HN.out; omega) h.sas h.sbs
      rw [HP.out, HQ.out, ← HST.out.1, ← HST.out.2.1, ← HST.out.2.2] at K
      refine K.mono ?_
      rintro r V' ⟨v, rfl, ⟨m1, n1, m2, n2', rfl, q1, q2, _⟩, q3⟩
      exact ⟨m1, n1, m2, n2', rfl, q1, q2, q3⟩)
    have HKN := Lib.hid (show k ≤ 3000 ∧ n2 ≤ 3000 by
      have h1 := HK.out.1
      have h2 := HP.out
      have h3 := HN.out
      have h4 : n2 ≤ k := by rw [HST.out.1]; unfold stN; split <;> (try split) <;> omega
      omega)
    have H20 := Lib.hid (show ∀ V m1 n1 m2 n2', CC p q x y g9 c9 g10 c10 aa bb ua va w7.heap.size w9.heap.size da db k pr n2 py gt a1 a2 e1 e2 c1 c2 f1 f2 w V → Sl V m1 (rowN da k) → Sl V m2 (rowN db k) → Calls Try.prog 20 #[.agg #[.slice a1 k c1, .slice a2 k c2, .int .u64 pr, .int .u64 pr], .agg #[.slice m1 k n1, .slice m2 k n2', .int .u64 pr, .int .u64 pr]] V fun r V' => r = .returned (.bool true) ∧ Below V.heap.size V V' from fun V m1 n1 m2 n2' h q1 q2 =>
      alike_true k pr pr da db a1 a2 m1 m2 c1 c2 n1 n2' V (by have := HKN.out; omega) h.d1 q1 h.d2 q2)
    have H20s := Lib.hid (show ∀ V m1 n1 m2 n2', CC p q x y g9 c9 g10 c10 aa bb ua va w7.heap.size w9.heap.size da db k pr n2 py gt a1 a2 e1 e2 c1 c2 f1 f2 w V → Sl V m1 (rowN da n2) → Sl V m2 (rowN db n2) → Calls Try.prog 20 #[.agg #[.slice e1 n2 f1, .slice e2 n2 f2, .int .u64 py, .int .u64 gt], .agg #[.slice m1 n2 n1, .slice m2 n2 n2', .int .u64 py, .int .u64 gt]] V fun r V' => r = .returned (.bool true) ∧ Below V.heap.size V V' from fun V m1 n1 m2 n2' h q1 q2 =>
      alike_true n2 py gt da db e1 e2 m1 m2 f1 f2 n1 n2' V (by have := HKN.out; omega) h.s1 q1 h.s2 q2)
    have u1 : ((gh : Int) == (gh : Int)) = true := by simp
    have u2 : ((gl : Int) == (gl : Int)) = true := by simp
    obtain ⟨z0, z1, z2, z3, z4, z5, z6, z7⟩ := HC.out.cells
    go_upto_region 18 with fail
    go_region_held3 (fun V => V.cell? ⟨w7.heap.size, 0, none⟩ = some (.slice a1 k c1) ∧ V.cell? ⟨w7.heap.size, 1, none⟩ = some (.slice a2 k c2) ∧ V.cell? ⟨w7.heap.size, 2, none⟩ = some (.int .u64 pr) ∧ V.cell? ⟨w7.heap.size, 3, none⟩ = some (.int .u64 pr) ∧
        V.cell? ⟨w9.heap.size, 0, none⟩ = some (.slice e1 n2 f1) ∧ V.cell? ⟨w9.heap.size, 1, none⟩ = some (.slice e2 n2 f2) ∧ V.cell? ⟨w9.heap.size, 2, none⟩ = some (.int .u64 py) ∧ V.cell? ⟨w9.heap.size, 3, none⟩ = some (.int .u64 gt)) (go_keep)
      ((first
        | (go_at_call 21; (with_reducible refine (H21.out _ HA0).mono ?_); rintro r1 y1 ⟨m1, n1, m2, n2', rfl, hs1, hs2, hb1⟩; have hA1 := HA0.kept hb1; obtain ⟨b0, b1, b2, b3, b4, b5, b6, b7⟩ := hA1.cells)
        | (go_at_call 20; (with_reducible refine (H20.out _ m1 n1 m2 n2' hA1 hs1 hs2).mono ?_); rintro r2 y2 ⟨rfl, hb2⟩; have hA2 := hA1.kept hb2; obtain ⟨d0, d1, d2, d3, d4, d5, d6, d7⟩ := hA2.cells)
        | (go_at_call 22; (with_reducible refine (H22.out _ hA2).mono ?_); rintro r3 y3 ⟨m3, n3, m4, n4, rfl, hs3, hs4, hb3⟩; have hA3 := hA2.kept hb3; obtain ⟨i0, i1, i2, i3, i4, i5, i6, i7⟩ := hA3.cells)
        | (go_at_call 20; (with_reducible refine (H20s.out _ m3 n3 m4 n4 hA3 hs3 hs4).mono ?_); rintro r4 y4 ⟨rfl, hb4⟩; have hA4 := hA3.kept hb4; obtain ⟨j0, j1, j2, j3, j4, j5, j6, j7⟩ := hA4.cells)))
    have HD := Lib.hid hA4
    clear HA0 hA1 hA2 hA3 hA4 hb1 hb2 hb3 hb4 hs1 hs2 hs3 hs4 z0 z1 z2 z3 z4 z5 z6 z7 b0 b1 b2 b3 b4 b5 b6 b7 d0 d1 d2 d3 d4 d5 d6 d7 i0 i1 i2 i3 i4 i5 i6 i7 j0 j1 j2 j3 j4 j5 j6 j7 H20 H20s H21 H22 HC
    obtain ⟨ub, uo, hua, zu⟩ := mark_at SU0.out
    obtain ⟨vb, vo, hva, zv⟩ := mark_at SV0.out
    subst hua hva
    have K23a := Lib.hid (show ∀ V, CC p q x y g9 c9 g10 c10 aa bb (some ⟨ub, uo, none⟩) (some ⟨vb, vo, none⟩) w7.heap.size w9.heap.size da db k pr n2 py gt a1 a2 e1 e2 c1 c2 f1 f2 w V → Calls Try.prog 23 #[.slice (some ⟨g9, 0, none⟩) xs.length c9, .slice aa xs.length ac] V fun r V' => r = .returned (.bool true) ∧ Qt V V' from fun V h => by
      have K := kept_true g9 c9 aa ac p V (by have := HP.out; have := HN.out; omega) h.la h.sas
      rw [HP.out] at K; exact K)
    have K23b := Lib.hid (show ∀ V, CC p q x y g9 c9 g10 c10 aa bb (some ⟨ub, uo, none⟩) (some ⟨vb, vo, none⟩) w7.heap.size w9.heap.size da db k pr n2 py gt a1 a2 e1 e2 c1 c2 f1 f2 w V → Calls Try.prog 23 #[.slice (some ⟨g10, 0, none⟩) ys.length c10, .slice bb ys.length bc0] V fun r V' => r = .returned (.bool true) ∧ Qt V V' from fun V h => by
      have K := kept_true g10 c10 bb bc0 q V (by have := HQ.out; have := HN.out; omega) h.lb h.sbs
      rw [HQ.out] at K; exact K)
    have K24a := Lib.hid (show ∀ V, CC p q x y g9 c9 g10 c10 aa bb (some ⟨ub, uo, none⟩) (some ⟨vb, vo, none⟩) w7.heap.size w9.heap.size da db k pr n2 py gt a1 a2 e1 e2 c1 c2 f1 f2 w V → Calls Try.prog 24 #[.slice (some ⟨ub, uo, none⟩) x.length uc, .slice xa x.length xc] V fun r V' => r = .returned (.bool true) ∧ Qt V V' from fun V h =>
      same_true (some ⟨ub, uo, none⟩) xa uc xc x V (by have := HN.out; unfold maxLen; omega) (Sl.pre h.su) (HS3.out.kept h.bel))
    have K24b := Lib.hid (show ∀ V, CC p q x y g9 c9 g10 c10 aa bb (some ⟨ub, uo, none⟩) (some ⟨vb, vo, none⟩) w7.heap.size w9.heap.size da db k pr n2 py gt a1 a2 e1 e2 c1 c2 f1 f2 w V → Calls Try.prog 24 #[.slice (some ⟨vb, vo, none⟩) y.length vc, .slice ya y.length yc] V fun r V' => r = .returned (.bool true) ∧ Qt V V' from fun V h =>
      same_true (some ⟨vb, vo, none⟩) ya vc yc y V (by have := HN.out; unfold maxLen; omega) (Sl.pre h.sv) (HS4.out.kept h.bel))
    have wx : IntKind.i64.wrap ((x.length : Int) + 1) = ((x.length + 1 : Nat) : Int) := by rw [IntKind.wrap_i64]; have := HN.out; omega
    have wy : IntKind.i64.wrap ((y.length : Int) + 1) = ((y.length + 1 : Nat) : Int) := by rw [IntKind.wrap_i64]; have := HN.out; omega
    have ix : (x.length : Int) < ((x.length + 1 : Nat) : Int) := by omega
    have iy : (y.length : Int) < ((y.length + 1 : Nat) : Int) := by omega
    go_wp2_with fail
    refine (K23a.out _ HD.out).mono ?_
    rintro r5 y5 ⟨rfl, hq5⟩
    have HD5 := Lib.hid (HD.out.kept (hq5.below _))
    clear hq5
    go_wp2_with fail
    refine (K23b.out _ HD5.out).mono ?_
    rintro r6 y6 ⟨rfl, hq6⟩
    have HD6 := Lib.hid (HD5.out.kept (hq6.below _))
    clear hq6
    go_wp2_with fail
    refine (K24a.out _ HD6.out).mono ?_
    rintro r7 y7 ⟨rfl, hq7⟩
    have HD7 := Lib.hid (HD6.out.kept (hq7.below _))
    clear hq7
    have zu7 := mark_cell HD7.out.su
    go_wp2_with fail
    refine (K24b.out _ HD7.out).mono ?_
    rintro r8 y8 ⟨rfl, hq8⟩
    have HD8 := Lib.hid (HD7.out.kept (hq8.below _))
    clear hq8 zu7
    have zu8 := mark_cell HD8.out.su
    have zv8 := mark_cell HD8.out.sv
    have L2 := Lib.hid (show LentQ y8 p g9 c9 ∧ LentQ y8 q g10 c10 ∧ Below w.heap.size w y8 from ⟨HD8.out.la, HD8.out.lb, HD8.out.bel⟩)
    clear HD5 HD6 HD7 HD8 HD
    go_wp2
    clear zu8 zv8 wx wy ix iy zu zv K23a K23b K24a K24b HPR HST HGN HGL HGM HGW HKN HZA HZB HK
    go_loopw [24] (fun x24 V => ∃ (i : Nat) (p' : List (BitVec 64)), i ≤ xs.length ∧ x24 = .int .i64 i ∧ p'.length = xs.length ∧ LentQ V p' g9 c9 ∧ LentQ V q g10 c10 ∧ Below w.heap.size w V) (fun x24 _ => xs.length - (intOf x24).toNat)
    case atStart => exact ⟨0, p, Nat.zero_le _, rfl, HP.out, L2.out⟩
    case round =>
      clear L2
      obtain ⟨i, p', hi, rfl, hp', hla, hlb, hbl⟩ := hrel
      have HP' := Lib.hid hp'
      have LA := Lib.hid hla
      have LB := Lib.hid hlb
      have HB := Lib.hid hbl
      clear hp' hla hlb hbl
      obtain ⟨wu, h⟩ : ∃ W, W = wr := ⟨_, rfl⟩
      subst h
      by_cases hlt : i < xs.length
      · have t5 : decide ((i : Int) < (xs.length : Int)) = true := decide_eq_true (by omega)
        have t5n : decide (i < xs.length) = true := decide_eq_true hlt
        have i1 : (i : Int) < (xs.length : Int) := by omega
        have hlp : i < p'.length := by rw [HP'.out]; exact hlt
        have z1 := LA.out.cell i hlp
        have z2 := LA.out.frozen i
        have hv := lq_lt p' i
        generalize lq p' i = v at *
        obtain ⟨h, hh⟩ : ∃ h, h = v / 2 := ⟨_, rfl⟩
        obtain ⟨r, hr⟩ : ∃ r, r = i % 3 := ⟨_, rfl⟩
        obtain ⟨s, hs⟩ : ∃ s, s = h + r := ⟨_, rfl⟩
        have w1' : (v : Int) / 2 = (h : Int) := by omega
        have w2' : IntKind.u64.wrap (h : Int) = (h : Int) := by rw [IntKind.wrap_u64]; omega
        have w3' : (i : Int) % 3 = (r : Int) := by omega
        have w4' : (i : Int).tmod 3 = (r : Int) := by rw [Int.tmod_eq_emod_of_nonneg (by omega)]; omega
        have w5' : IntKind.i64.wrap (r : Int) = (r : Int) := by rw [IntKind.wrap_i64]; omega
        have w6' : IntKind.u64.wrap (r : Int) = (r : Int) := by rw [IntKind.wrap_u64]; omega
        have w7' : IntKind.u64.wrap ((h : Int) + (r : Int)) = (s : Int) := by rw [IntKind.wrap_u64]; omega
        have w8' : IntKind.i64.wrap ((i : Int) + 1) = ((i + 1 : Nat) : Int) := by rw [IntKind.wrap_i64]; have := HN.out; omega
        have HX := Lib.hid (show LentQ (wu.setCell ⟨g9, i, none⟩ (.int .u64 (s : Int))) (p'.set i (BitVec.ofNat 64 s)) g9 c9 by
          have := LA.out.set i hlp (BitVec.ofNat 64 s)
          rw [show U64 (BitVec.ofNat 64 s) = (s : Int) by unfold U64; rw [BitVec.toNat_ofNat]; omega] at this
          exact this)
        have HXB := Lib.hid (show LentQ (wu.setCell ⟨g9, i, none⟩ (.int .u64 (s : Int))) q g10 c10 from LB.out.only (Only.of_grown (S := fun k => k = g9) (grown_set (grown_refl wu (some g9)) i _) (fun k hk => by injection hk with e; exact e.symm)) (by have := HGG.out; show ¬ (g10 = g9); omega))
        have HBX := Lib.hid (show Below w.heap.size w (wu.setCell ⟨g9, i, none⟩ (.int .u64 (s : Int))) from HB.out.setCell (by have := HGG.out; exact this.1) _)
        have HI := Lib.hid hlt
        clear hh hr hs hv hlt hi hlp
        go_wp2
        go_roundw
        case rel => exact ⟨i + 1, _, HI.out, by go_num, by rw [List.length_set]; exact HP'.out, HX.out, HXB.out, HBX.out⟩
        case measure => have := HI.out; simp [intOf]; omega
      have t5 : decide ((i : Int) < (xs.length : Int)) = false := decide_eq_false (by omega)
      have t5n : decide (i < xs.length) = false := decide_eq_false hlt
      clear hlt hi
      go_wp2
      go_loopw [25] (fun x25 V => ∃ (j : Nat) (q' : List (BitVec 64)), j ≤ ys.length ∧ x25 = .int .i64 j ∧ q'.length = ys.length ∧ LentQ V p' g9 c9 ∧ LentQ V q' g10 c10 ∧ Below w.heap.size w V) (fun x25 _ => ys.length - (intOf x25).toNat)
      case atStart => exact ⟨0, q, Nat.zero_le _, rfl, HQ.out, LA.out, LB.out, HB.out⟩
      case round =>
        clear LA LB HB
        obtain ⟨j, q', hj, rfl, hq', hla, hlb, hbl⟩ := hrel
        have HQ' := Lib.hid hq'
        have LA := Lib.hid hla
        have LB := Lib.hid hlb
        have HB := Lib.hid hbl
        clear hq' hla hlb hbl
        obtain ⟨wv, h⟩ : ∃ W, W = wr := ⟨_, rfl⟩
        subst h
        have w9' : IntKind.i64.wrap ((t : Int) + 1) = ((t + 1 : Nat) : Int) := by rw [IntKind.wrap_i64]; have := HT.out; omega
        by_cases hlt : j < ys.length
        · have t6 : decide ((j : Int) < (ys.length : Int)) = true := decide_eq_true (by omega)
          have t6n : decide (j < ys.length) = true := decide_eq_true hlt
          by_cases ht0 : 0 < t
          · have t7 : decide (0 < (t : Int)) = true := decide_eq_true (by omega)
            have t7n : decide (0 < t) = true := decide_eq_true ht0
            have j1 : (j : Int) < (ys.length : Int) := by omega
            have hlq : j < q'.length := by rw [HQ'.out]; exact hlt
            have hdr : Below wv.heap.size wv wv.drew := (Qt.drewN wv 1).below _
            have LB2 := Lib.hid (LB.out.kept hdr)
            have LA2 := Lib.hid (LA.out.kept hdr)
            have HB2 := Lib.hid (HB.out.trans (hdr.mono HB.out.size))
            have z1 := LB.out.cell j hlq
            have z1' := LB2.out.cell j hlq
            have z2 := LB2.out.frozen j
            have hv := lq_lt q' j
            generalize lq q' j = v at *
            obtain ⟨h, hh⟩ : ∃ h, h = v / 3 := ⟨_, rfl⟩
            obtain ⟨s, hs⟩ : ∃ s, s = v - h := ⟨_, rfl⟩
            have w1' : (v : Int) / 3 = (h : Int) := by omega
            have w2' : IntKind.u64.wrap (h : Int) = (h : Int) := by rw [IntKind.wrap_u64]; omega
            have w7' : IntKind.u64.wrap ((v : Int) - (h : Int)) = (s : Int) := by rw [IntKind.wrap_u64]; omega
            have w8' : IntKind.i64.wrap ((j : Int) + 1) = ((j + 1 : Nat) : Int) := by rw [IntKind.wrap_i64]; have := HN.out; omega
            have HX := Lib.hid (show LentQ (wv.drew.setCell ⟨g10, j, none⟩ (.int .u64 (s : Int))) (q'.set j (BitVec.ofNat 64 s)) g10 c10 by
              have := LB2.out.set j hlq (BitVec.ofNat 64 s)
              rw [show U64 (BitVec.ofNat 64 s) = (s : Int) by unfold U64; rw [BitVec.toNat_ofNat]; omega] at this
              exact this)
            have HXA := Lib.hid (show LentQ (wv.drew.setCell ⟨g10, j, none⟩ (.int .u64 (s : Int))) p' g9 c9 from LA2.out.only (Only.of_grown (S := fun k => k = g10) (grown_set (grown_refl wv.drew (some g10)) j _) (fun k hk => by injection hk with e; exact e.symm)) (by have := HGG.out; show ¬ (g9 = g10); omega))
            have HBX := Lib.hid (show Below w.heap.size w (wv.drew.setCell ⟨g10, j, none⟩ (.int .u64 (s : Int))) from HB2.out.setCell (by have := HGG.out; show w.heap.size ≤ g10; omega) _)
            have HI := Lib.hid hlt
            clear hh hs hv hlt hj hlq ht0 hdr
            go_upto_region 28 with fail
            go_still_tail 13, (by kernel_rfl)
            go_wp2
            go_roundw
            case rel => exact ⟨j + 1, _, HI.out, by go_num, by rw [List.length_set]; exact HQ'.out, HXA.out, HX.out, HBX.out⟩
            case measure => have := HI.out; simp [intOf]; omega
          have t7 : decide (0 < (t : Int)) = false := decide_eq_false (by omega)
          have t7n : decide (0 < t) = false := decide_eq_false ht0
          clear hlt hj ht0
          go_wp2
          go_roundw
          case rel => exact ⟨t + 1, p', q', HT.out, by go_num, HP'.out, HQ'.out, LA.out, LB.out, HB.out⟩
          case measure => have := HT.out; simp [intOf]; omega
        have t6 : decide ((j : Int) < (ys.length : Int)) = false := decide_eq_false (by omega)
        have t6n : decide (j < ys.length) = false := decide_eq_false hlt
        clear hlt hj
        go_wp2
        go_roundw
        case rel => exact ⟨t + 1, p', q', HT.out, by go_num, HP'.out, HQ'.out, LA.out, LB.out, HB.out⟩
        case measure => have := HT.out; simp [intOf]; omega
theorem own : ownKnob Try.prog.godebug = none := by kernel_rfl
theorem laidOut : laidOutB Try.prog = true := by kernel_rfl
set_option maxRecDepth 100000 in
theorem lifted (os : Os) (started : os.Started) (H : Type) (enc : TypeId × Value → H) :
    ReturnsInHanded {} Try.checked os 5 .any (Rows.callClearsSpec.pre6 enc Try.prog Try.f5 Rows.callClearsRow.domain false) (Rows.callClearsSpec.post enc Try.prog Try.f5 false true false false) := by
  refine returnsInHanded_of_change_sized (C := Try.checked) own started (by kernel_rfl) Try.func5
    (ChangeSpec.witness6 (enc := enc) (C := Try.checked) false ⟨#[], #[.slice none 0 0, .slice none 0 0, .slice none 0 0, .slice none 0 0], []⟩ 8 (by kernel_rfl) (by kernel_rfl) (by kernel_rfl) (by kernel_rfl)) ?_
  intro W base args ds gs before hval0 hW hcnd hsz0 _
  have hsz : (DataW.weightsEach Try.prog (Try.f5.params.toList ++ Rows.callClearsSpec.plain.varTypes Try.prog) (ds ++ gs)).all (· ≤ reachBytes) = true := hsz0
  clear hsz0
  have hval : ∀ (j : Nat) t v, Try.f5.params[j]? = some t → args[j]? = some v → Value.okWide Try.prog W .any base t v := hval0
  have hW' := hW
  obtain ⟨p, q, hA0, hV, rfl, hfz, hnd⟩ := hW
  have hA : DataW.TrodAll enc Try.prog W 0 (fun _ => true) true Try.f5.params.toList args.toList ds p := hA0
  rw [Try.params5] at hA hval hsz
  obtain ⟨v0, vs0, d0, ds0, p0, q0, hargs, rfl, rfl, h0, r0⟩ := trodAll_cons hA
  obtain ⟨v1, vs1, d1, ds1, p1, q1, rfl, rfl, rfl, h1, r1⟩ := trodAll_cons r0
  obtain ⟨v2, vs2, d2, ds2, p2, q2, rfl, rfl, rfl, h2, r2⟩ := trodAll_cons r1
  obtain ⟨v3, vs3, d3, ds3, p3, q3, rfl, rfl, rfl, h3, r3⟩ := trodAll_cons r2
  obtain ⟨rfl, rfl, rfl⟩ := trodAll_nil r3
  obtain rfl : args = #[v0, v1, v2, v3] := by cases args; simp_all
  obtain ⟨rfl, rfl⟩ := trodVars_none hV
  obtain ⟨a0, len0, cap0, rfl⟩ := okWide_slice Try.underlying22 (hval 0 22 v0 rfl rfl)
  have k0 := h0
  have lt0 : ∀ x ∈ p0, x.block < W.heap.size := by obtain ⟨m, hm⟩ := k0; exact DataW.trod_lt m _ _ _ hm
  obtain ⟨l0, rfl, s0, n0, m0, z0⟩ := open_u64s h0 hsz (j := 0) rfl rfl
  obtain ⟨a1, len1, cap1, rfl⟩ := okWide_slice Try.underlying22 (hval 1 22 v1 rfl rfl)
  have k1 := h1
  have lt1 : ∀ x ∈ p1, x.block < W.heap.size := by obtain ⟨m, hm⟩ := k1; exact DataW.trod_lt m _ _ _ hm
  obtain ⟨l1, rfl, s1, n1, m1, z1⟩ := open_u64s h1 hsz (j := 1) rfl rfl
  obtain ⟨a2, len2, cap2, rfl⟩ := okWide_slice Try.underlying24 (hval 2 24 v2 rfl rfl)
  have k2 := h2
  have lt2 : ∀ x ∈ p2, x.block < W.heap.size := by obtain ⟨m, hm⟩ := k2; exact DataW.trod_lt m _ _ _ hm
  obtain ⟨l2, rfl, s2, n2, m2, z2⟩ := open_i64s h2 hsz (j := 2) rfl rfl
  obtain ⟨a3, len3, cap3, rfl⟩ := okWide_slice Try.underlying24 (hval 3 24 v3 rfl rfl)
  have k3 := h3
  have lt3 : ∀ x ∈ p3, x.block < W.heap.size := by obtain ⟨m, hm⟩ := k3; exact DataW.trod_lt m _ _ _ hm
  obtain ⟨l3, rfl, s3, n3, m3, z3⟩ := open_i64s h3 hsz (j := 3) rfl rfl
  clear hA0 hval0
  refine (walk a0 cap0 l0 a1 cap1 l1 a2 cap2 l2 a3 cap3 l3 W s0 n0 m0 z0 s1 n1 m1 z1 s2 n2 m2 z2 s3 n3 m3 z3).mono fun e W' ⟨he, bel⟩ => ?_
  subst he
  exact ⟨_, rfl, _, _, _, [], _, [], hW', trodAll_mk1 (shut_bool Try.underlying4 _), (trodAll_cons_mk (Below.trod laidOut (by kernel_rfl) (of_decide_eq_true (by kernel_rfl)) k0 bel lt0) (trodAll_cons_mk (Below.trod laidOut (by kernel_rfl) (of_decide_eq_true (by kernel_rfl)) k1 bel lt1) (trodAll_cons_mk (Below.trod laidOut (by kernel_rfl) (of_decide_eq_true (by kernel_rfl)) k2 bel lt2) (trodAll_cons_mk (Below.trod laidOut (by kernel_rfl) (of_decide_eq_true (by kernel_rfl)) k3 bel lt3) trodAll_mk0)))), rfl, bel.frame _, fun h => by cases h⟩
theorem over : Rows.callClearsRow.holds Try.pinned (OpenSpec.ofChange Rows.callClearsSpec) :=
  OpenClaim.holds_of_wide 5 Try.f5 rfl rfl rfl rfl rfl rfl rfl ⟨rfl, rfl, rfl, rfl, rfl⟩ rfl rfl rfl rfl rfl (by kernel_rfl) Try.func5 (by kernel_rfl)
    (of_decide_eq_true (by kernel_rfl)) (by unfold Func.isWrapper; first | (rw [if_pos (by decide +kernel)]; kernel_rfl) | (rw [if_neg (by decide +kernel)]; exact ⟨rfl, rfl⟩))
    (fun os started H enc _ => lifted os started H enc)
theorem proved : Rows.CallClearsSaid := over
#print axioms proved
end Go.Proofs.Ytbggibdldadpiaa.lawCallClears
