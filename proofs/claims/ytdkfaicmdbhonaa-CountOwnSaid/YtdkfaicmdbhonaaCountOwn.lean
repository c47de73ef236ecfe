/-
  What Shares answers is memory of its own, and what is handed in stays: three answers are written full of marks and gone on with, and looked at.
  No condition beyond the statement's own.
-/
import Derived.Test.YtdkfaicmdbhonaaEa
import Derived.Test.YtdkfaicmdbhonaaOa
import Derived.Deep.DeepCutAuto
import Derived.Deep.CutBlock
namespace Go.Proofs.Ytdkfaicmdbhonaa.lawCountOwn
open Go.RowKit Go.K Go.ChangeShapes Go.WideShapes Go.ChangeAt Go.Words
set_option linter.unusedVariables false
set_option linter.unusedSimpArgs false
theorem q24 : (Try.prog.info? 24).map (·.size) = some 1 := by kernel_rfl
theorem info22 : (Try.prog.info? 22).map (fun i => (i.zero, i.size, i.bytes)) = some (some (.slice none 0 0), 1, 24) := by kernel_rfl
theorem sh_len (t : Nat) (l : List (BitVec 64)) : (shR t l).length ≤ 1024 := by
  unfold shR
  split
  · rename_i h; rw [shL_len]; exact h.2.1
  · simp
theorem ob {W W' : World} {B : Nat} {e : TypeId} {sz n : Nat} {v : Value} {xs : List Value} (h : W.ownsRow B e sz v n xs) (hb : Below W.heap.size W W') : W'.ownsRow B e sz v n xs := (Only.of_below (S := fun _ => False) hb).owns h (fun _ _ q => q)
theorem one_i (z : Int) : ∀ u ∈ [Value.int .u64 z], u.oneCell' = true := by
  intro u hu
  rw [List.mem_singleton.1 hu]; rfl
theorem one_v (l : List (BitVec 64)) : ∀ u ∈ vQ l, u.oneCell' = true := by
  intro u hu
  obtain ⟨x, _, rfl⟩ := List.mem_map.1 hu; rfl
set_option maxRecDepth 100000 in
set_option maxHeartbeats 8000000 in
theorem walk (a b : BitVec 64) (ga : Option Addr) (gc : Nat) (l : List (BitVec 64)) (w : World) (hs : Sl w ga (vQ l)) (hn : l.length ≤ gc) (hm : gc ≤ 17592186043904) (hz : ga = none → l.length = 0 ∧ gc = 0) :
    Calls Try.prog 10 #[.int .u64 (U64 a), .int .u64 (U64 b), .slice ga l.length gc] w fun e w' => e = .returned (.bool true) ∧ Below w.heap.size w w' := by
  have HS := Lib.hid hs
  have HZ := Lib.hid hz
  have HLN := Lib.hid (show l.length ≤ 17592186043904 by omega)
  have HAW := Lib.hid (awake_any w)
  have hga : ∀ y, ga = some y → vQ l ≠ [] → y.block < w.heap.size := fun y hy hne => by
    obtain ⟨b1, o1, he, hc⟩ := hs hne
    rw [hy] at he
    have h0 := hc 0 (by cases hv : vQ l with | nil => exact absurd hv hne | cons _ _ => simp)
    rw [List.getElem?_eq_getElem (by cases hv : vQ l with | nil => exact absurd hv hne | cons _ _ => simp)] at h0
    have := World.block_lt_of_cell? w _ h0
    cases he
    exact this
  have HGA := Lib.hid hga
  clear hs hn hm hz hga
  go_enter Try.func10, Try.ntmps10
  go_wp2_with fail
  refine HAW.out.mono ?_
  rintro e w1 ⟨rfl, hb1⟩
  have HB1 := Lib.hid hb1
  have K12 := Lib.hid (lent_any ga gc l w1 HLN.out HZ.out (HS.out.kept hb1))
  clear hb1 HAW
  go_wp2_with fail
  refine K12.out.mono ?_
  rintro e w2 ⟨gf, cf, rfl, hgf, hle, hb2⟩
  have HGF := Lib.hid hgf
  have HLE := Lib.hid hle
  have HB2 := Lib.hid (HB1.out.trans (hb2.mono HB1.out.size))
  clear hgf hle hb2 K12
  have SH := Lib.hid (fun t V (hV : Lent V l gf cf) => shares_one t l (some ⟨gf, 0, none⟩) cf V HLN.out hV.sl)
  have LA := Lib.hid (sh_len a.toNat l)
  have LB := Lib.hid (sh_len b.toNat l)
  obtain ⟨er, her⟩ : ∃ er, er = shE l := ⟨_, rfl⟩
  rw [← her] at SH
  have K1 := Lib.hid (SH.out a w2 HLE.out)
  have SHa := Lib.hid (fun V hV => SH.out a V hV)
  have SHb := Lib.hid (fun V hV => SH.out b V hV)
  clear her SH
  obtain ⟨la, hla⟩ : ∃ la, la = shR a.toNat l := ⟨_, rfl⟩
  obtain ⟨lb, hlb⟩ : ∃ lb, lb = shR b.toNat l := ⟨_, rfl⟩
  rw [← hla] at K1 SHa LA
  rw [← hlb] at SHb LB
  clear hla hlb
  have e0 : ((er : Int) != er) = false := by simp
  have e00 : ((er : Int) == er) = true := by simp
  go_wp2_with fail
  refine K1.out.mono ?_
  rintro e w3 ⟨a1, c1, rfl, ho1, hn1, hb3⟩
  have HO1 := Lib.hid ho1
  have HJ1 := Lib.hid (fun b hb => ho1.lt b hb)
  have HN1 := Lib.hid hn1
  have HD3 := Lib.hid hb3
  have HB3 := Lib.hid (HB2.out.trans (hb3.mono HB2.out.size))
  have K2 := Lib.hid (SHb.out w3 (HLE.out.kept HD3.out))
  clear ho1 hn1 hb3 K1
  go_wp2_with fail
  refine K2.out.mono ?_
  rintro e w4 ⟨a2, c2, rfl, ho2, hn2, hb4⟩
  have HO2 := Lib.hid ho2
  have HJ2 := Lib.hid (fun b hb => ho2.lt b hb)
  have HD4 := Lib.hid hb4
  have HB4 := Lib.hid (HB3.out.trans (hb4.mono HB3.out.size))
  have K3 := Lib.hid (SHa.out w4 ((HLE.out.kept HD3.out).kept HD4.out))
  clear ho2 hn2 hb4 K2
  go_wp2_with fail
  refine K3.out.mono ?_
  rintro e w5 ⟨a3, c3, rfl, ho3, hn3, hb5⟩
  have HO3 := Lib.hid ho3
  have HJ3 := Lib.hid (fun b hb => ho3.lt b hb)
  have HD5 := Lib.hid hb5
  have HB5 := Lib.hid (HB4.out.trans (hb5.mono HB4.out.size))
  have HO1 := Lib.hid (ob HO1.out (show Below w3.heap.size w3 w5 from HD4.out.trans (HD5.out.mono HD4.out.size)))
  have HO2 := Lib.hid (ob HO2.out HD5.out)
  have HC1 := Lib.hid (show Sl w5 a1 (vQ la) from owns_sl HO1.out (vQ_length _))
  clear ho3 hn3 hb5 K3
  have h63 : 0 + la.length ≤ maxLen := by unfold maxLen; have := LA.out; omega
  have hby : (0 + la.length) * 8 ≤ 140737488355328 := by have := LA.out; omega
  have hal : (vQ la).length = la.length * 1 := by rw [vQ_length]; omega
  go_wp2_with (at_builtin; refine wpList_append_sl rfl _ _ 22 rfl w5.heap.size 24 (.int .u64 0) 1 8 Try.underlying22 Try.info24 rfl (by decide) _ 0 [] rfl (World.ownsRow_nil _ _ _ _) a1 la.length c1 (vQ la) rfl HN1.out hal HC1.out (one_v la) h63 hby (Nat.le_refl _) ?hw)
  intro vw w6 how hgw
  have HD6 := Lib.hid (show Below w5.heap.size w5 w6 from (Below.refl _ _).grown hgw (Nat.le_refl _) (fun j hj => by cases hj))
  have HB6 := Lib.hid (HB5.out.trans (HD6.out.mono HB5.out.size))
  obtain ⟨aw, cw, hvw, hsw⟩ : ∃ aw cw, vw = .slice aw la.length cw ∧ w6.ownsRow w5.heap.size 24 1 (.slice aw la.length cw) la.length (vQ la) := by
    have h : w6.ownsRow w5.heap.size 24 1 vw la.length (vQ la) := by simpa using how
    rcases h.2 with ⟨hv, h0⟩ | ⟨g2, cap2, cur, hv, hg2, hh, hnc, hcm, hcs, htk⟩
    · refine ⟨none, 0, by rw [hv, h0], ?_⟩
      rw [hv] at h
      rw [h0] at h ⊢; exact h
    · exact ⟨_, _, hv, hv ▸ h⟩
  subst hvw
  have HOW := Lib.hid hsw
  clear how hgw hsw h63 hby hal
  have HO1 := Lib.hid (ob HO1.out HD6.out)
  have HO2 := Lib.hid (ob HO2.out HD6.out)
  have HO3 := Lib.hid (ob HO3.out HD6.out)
  have K36 := Lib.hid (same_any a3 aw c3 cw la la w6 (by unfold maxLen; have := LA.out; omega) rfl (owns_sl HO3.out (vQ_length _)) (owns_sl HOW.out (vQ_length _)))
  rw [show decide (la = la) = true by simp] at K36
  clear HC1 HN1
  go_wp2_with fail
  refine K36.out.mono ?_
  rintro e w7 ⟨rfl, hq7⟩
  have HD7 := Lib.hid (hq7.below w6.heap.size)
  clear hq7 K36
  go_upto_region 12 with fail
  obtain ⟨bw, hbw⟩ : ∃ bw, bw = w7.heap.size := ⟨_, rfl⟩
  obtain ⟨w8, hw8⟩ : ∃ W, W = w7.alloc (.cells #[.slice a1 la.length c1, .slice a2 lb.length c2, .slice a3 la.length c3] 22) := ⟨_, rfl⟩
  rw [← hbw, ← hw8]
  obtain ⟨ls, hls⟩ : ∃ ls : List R3, ls = [(a1, la.length, c1), (a2, lb.length, c2), (a3, la.length, c3)] := ⟨_, rfl⟩
  have hd8 : Below w6.heap.size w6 w8 := by rw [hw8]; exact HD7.out.alloc HD7.out.size _
  have HD8 := Lib.hid hd8
  have HB8 := Lib.hid (HB6.out.trans (hd8.mono HB6.out.size))
  have HL3 := Lib.hid (show ls.length = 3 by rw [hls]; rfl)
  have s23 := HD3.out.size
  have s34 := HD4.out.size
  have s45 := HD5.out.size
  have s56 := HD6.out.size
  have s68 := hd8.size
  have o1 := ob HO1.out hd8
  have o2 := ob HO2.out hd8
  have o3 := ob HO3.out hd8
  have ow := ob HOW.out hd8
  have HB28 := Lib.hid (show w2.heap.size ≤ w8.heap.size by omega)
  have HFAM := Lib.hid (show Fam w2.heap.size w8 ls by
    subst hls
    have j1 : ∀ b, (r3 (a1, la.length, c1)).ownBlock = some b → w2.heap.size ≤ b ∧ b < w3.heap.size := HJ1.out
    have j2 : ∀ b, (r3 (a2, lb.length, c2)).ownBlock = some b → w3.heap.size ≤ b ∧ b < w4.heap.size := HJ2.out
    have j3 : ∀ b, (r3 (a3, la.length, c3)).ownBlock = some b → w4.heap.size ≤ b ∧ b < w5.heap.size := HJ3.out
    refine ⟨fun i hi => ?_, fun i j hi hj hne bb h1 h2 => ?_⟩
    · have hi : i < 3 := hi
      match i, hi with
      | 0, _ => exact ⟨_, o1⟩
      | 1, _ => exact ⟨_, owns_base o2 s23⟩
      | 2, _ => exact ⟨_, owns_base o3 (by omega)⟩
    · have hi : i < 3 := hi
      have hj : j < 3 := hj
      match i, hi, j, hj with
      | 0, _, 0, _ => exact hne rfl
      | 1, _, 1, _ => exact hne rfl
      | 2, _, 2, _ => exact hne rfl
      | 0, _, 1, _ => have := j1 _ h1; have := j2 _ h2; omega
      | 0, _, 2, _ => have := j1 _ h1; have := j3 _ h2; omega
      | 1, _, 0, _ => have := j2 _ h1; have := j1 _ h2; omega
      | 1, _, 2, _ => have := j2 _ h1; have := j3 _ h2; omega
      | 2, _, 0, _ => have := j3 _ h1; have := j1 _ h2; omega
      | 2, _, 1, _ => have := j3 _ h1; have := j2 _ h2; omega)
  have HNN := Lib.hid (show ∀ r ∈ ls, r.2.1 ≤ 1024 by
    rw [hls]
    intro r hr
    have := LA.out
    have := LB.out
    simp only [List.mem_cons, List.not_mem_nil, or_false] at hr
    rcases hr with rfl | rfl | rfl <;> (simp only; omega))
  have HLOC := Lib.hid (show ∀ b, ownS ls b → w2.heap.size ≤ b ∧ b < w5.heap.size by
    rintro b ⟨r, hr, hb⟩
    rw [hls] at hr
    simp only [List.mem_cons, List.not_mem_nil, or_false] at hr
    rcases hr with rfl | rfl | rfl
    · have := HJ1.out b hb; omega
    · have := HJ2.out b hb; omega
    · have := HJ3.out b hb; omega)
  have HCC := Lib.hid (show Sl w8 (some ⟨bw, 0, none⟩) (ls.map r3) by
    rw [hls, hw8, hbw]; exact sl_new w7 _ 22 (0, 0))
  have HBW := Lib.hid (show ¬ ownS ls bw from fun h => by
    have := HLOC.out bw h
    have := HD7.out.size
    omega)
  have HOWS := Lib.hid (show Sl w8 aw (vQ la) ∧ ∀ y, aw = some y → ¬ ownS ls y.block from ⟨owns_sl ow (vQ_length _), fun y hy h => by
    have h1 := HLOC.out _ h
    have h2 := (HOW.out.lt y.block (by rw [hy]; rfl)).1
    omega⟩)
  have HFZ := Lib.hid (show Lent w8 l gf cf ∧ ¬ ownS ls gf from by
    obtain ⟨cur, hh, h1⟩ := HLE.out
    have hlt := lt_row hh
    refine ⟨HLE.out.kept (show Below w2.heap.size w2 w8 from HD3.out.trans ((HD4.out.trans ((HD5.out.trans ((HD6.out.trans (hd8.mono s56)).mono s45)).mono s34)).mono s23)), fun h => ?_⟩
    have := HLOC.out _ h
    omega)
  clear HJ1 HJ2 HJ3 hls hw8 hbw hd8 s23 s34 s45 s56 s68 o1 o2 o3 ow HD3 HD4 HD5 HD6 HD7 HO1 HO2 HO3 HOW HLE HB1 HB3 HB4 HB5 HB6 SHb
  go_wp2
  -- the marks
  go_loopw [16, 17] (fun i ii wr => ∃ j : Nat, j ≤ 3 ∧ i = .int .i64 j ∧ Only (ownS ls) w8 wr ∧
      ∀ i' (h : i' < ls.length), RowM w2.heap.size wr ls[i'] i' (if i' < j then ls[i'].2.1 else 0)) (fun i _ _ => 3 - (intOf i).toNat)
  case atStart => exact ⟨0, by omega, rfl, Only.refl _ _, fun i' h => by rw [if_neg (by omega)]; obtain ⟨xs, hx⟩ := HFAM.out.own i' h; exact RowM.start hx⟩
  case round =>
    obtain ⟨j, hj, rfl, ho, hr⟩ := hrel
    have HO := Lib.hid ho
    have HR := Lib.hid hr
    clear ho hr
    by_cases hlt3 : j < 3
    case pos =>
      have hlt : j < ls.length := by rw [HL3.out]; exact hlt3
      have t0 : decide ((j : Int) < 3) = true := by simp; omega
      have i1 : (j : Int) < 3 := by omega
      have HCJ := Lib.hid (fun V (h : Only (ownS ls) w8 V) => cont_at (h.sl HCC.out (fun y hy _ => by cases hy; exact HBW.out)) j hlt)
      have HN := Lib.hid (HNN.out ls[j] (List.getElem_mem hlt))
      have HRJ := Lib.hid (show RowM w2.heap.size wr ls[j] j 0 by have h := HR.out j hlt; rwa [if_neg (Nat.lt_irrefl j)] at h)
      have HRO := Lib.hid (fun i' (h : i' < ls.length) (hne : i' ≠ j) => HR.out i' h)
      have HAJ := Lib.hid (fun i' (h : i' < ls.length) (hne : i' ≠ j) => HFAM.out.dis j i' hlt h (fun e => hne e.symm))
      have HEJ := Lib.hid (show ∀ i' (h : i' < ls.length), i' = j → ls[i'] = ls[j] from fun i' h e => by subst e; rfl)
      have HSJ := Lib.hid (show ∀ b, (r3 ls[j]).ownBlock = some b → ownS ls b from fun b hb => ⟨_, List.getElem_mem hlt, hb⟩)
      generalize ls[j] = rj at HCJ HN HRJ HAJ HEJ HSJ
      obtain ⟨aj, n, c⟩ := rj
      have hn : n ≤ 1024 := HN.out
      have HCJ := Lib.hid (fun V (h : Only (ownS ls) w8 V) => (show V.cell? ⟨bw, j, none⟩ = some (.slice aj n c) by obtain ⟨b', o', e', h'⟩ := HCJ.out V h; cases e'; rw [Nat.zero_add] at h'; exact h'))
      have z1 := HCJ.out _ HO.out
      clear HR
      go_wp2
      go_loopw [17] (fun i wq => ∃ k : Nat, k ≤ n ∧ i = .int .i64 k ∧ Only (ownS ls) w8 wq ∧ RowM w2.heap.size wq (aj, n, c) j k ∧
          ∀ i' (h : i' < ls.length), i' ≠ j → RowM w2.heap.size wq ls[i'] i' (if i' < j then ls[i'].2.1 else 0)) (fun i _ => n - (intOf i).toNat)
      case atStart => exact ⟨0, by omega, rfl, HO.out, HRJ.out, fun i' h hne => HRO.out i' h hne⟩
      case round =>
        clear HO HRJ HRO z1
        obtain ⟨k, hk, rfl, ho, hrj, hro⟩ := hrel
        have HO := Lib.hid ho
        have HRJ := Lib.hid hrj
        have HRO := Lib.hid hro
        clear ho hrj hro
        have z1 := HCJ.out _ HO.out
        by_cases hlk : k < n
        case pos =>
          have t1 : decide ((k : Int) < (n : Int)) = true := by simp; omega
          have i2 : (k : Int) < (n : Int) := by omega
          obtain ⟨g, cur, hga, hrow, hsz, hmk⟩ := HRJ.out.mark hlk
          have hga : aj = some ⟨g, 0, none⟩ := hga
          subst hga
          have HRW := Lib.hid hrow
          have HMK := Lib.hid hmk
          have hSg := HSJ.out g rfl
          clear hrow hmk HRJ
          have hw1 : IntKind.i64.wrap (5000 + (j : Int)) = 5000 + (j : Int) := by rw [IntKind.wrap_i64]; omega
          have hw2 : IntKind.u64.wrap (5000 + (j : Int)) = 5000 + (j : Int) := by rw [IntKind.wrap_u64]; omega
          go_wp2_with ((with_reducible refine at_store_op ?_); refine wpList_store_lit 24 g k (cur.toList.take k ++ [V5 j] ++ cur.toList.drop (k + 1)).toArray (.int .u64 (5000 + (j : Int))) HRW.out q24 (by show k + 1 ≤ cur.size; omega) rfl rfl ?_ ?_ ?_; exact rfl; exact rfl; intro w3 hp3)
          go_roundw
          case rel =>
            exact ⟨k + 1, by omega, by go_num, HO.out.trans hp3.only (fun n hn => .inl (hn ▸ hSg)), HMK.out _ hp3, fun i' h hne => (HRO.out i' h hne).only hp3.only (fun b hb hb2 => HAJ.out i' h hne g rfl (hb2 ▸ hb))⟩
          case measure => simp [intOf]; omega
        case neg =>
          have t1 : decide ((k : Int) < (n : Int)) = false := by simp; omega
          go_wp2
          go_roundw
          case rel =>
            refine ⟨j + 1, by omega, by go_num, HO.out, fun i' h => ?_⟩
            by_cases e : i' = j
            · rw [HEJ.out i' h e, e, if_pos (by omega)]
              have : k = n := by omega
              exact this ▸ HRJ.out
            · by_cases e2 : i' < j
              · rw [if_pos (by omega)]; simpa [e2] using HRO.out i' h e
              · rw [if_neg (by omega)]; simpa [e2] using HRO.out i' h e
          case measure => simp [intOf]; omega
    case neg =>
      have t0 : decide ((j : Int) < 3) = false := by simp; omega
      obtain ⟨wA, hwA⟩ : ∃ W, W = wr := ⟨_, rfl⟩
      subst hwA
      have HOA := HO
      have HWA := Lib.hid (show ∀ i' (h : i' < ls.length), wA.ownsRow w2.heap.size 24 1 (r3 ls[i']) ls[i'].2.1 (c5 i' ls[i'].2.1) from fun i' h => (show RowM w2.heap.size wA ls[i'] i' ls[i'].2.1 by have := HR.out i' h; rwa [if_pos (by have := HL3.out; omega)] at this).full)
      have HFB := Lib.hid (show Fam w2.heap.size wA ls from ⟨fun i' h => ⟨_, HWA.out i' h⟩, HFAM.out.dis⟩)
      have HBA := Lib.hid (show w2.heap.size ≤ wA.heap.size from by have h1 := HOA.out.size; have h2 := HB28.out; omega)
      clear HO HR HFAM
      go_wp2
      -- the going on
      go_loopw [18, 19, 20, 21] (fun v' i x20 x21 wr => ∃ (j : Nat) (v : Value) (us : List Value), v = v' ∧ j ≤ 3 ∧ i = .int .i64 j ∧ Out w2.heap.size ls wA j wr v us) (fun _ i _ _ _ => 3 - (intOf i).toNat)
      case atStart => exact ⟨0, _, [], rfl, by omega, rfl, Out.start HWA.out⟩
      case round =>
        obtain ⟨j, v, us, hv, hj, rfl, hou⟩ := hrel
        subst hv
        have HOU := Lib.hid hou
        clear hou
        by_cases hlt3 : j < 3
        case pos =>
          have hlt : j < ls.length := by rw [HL3.out]; exact hlt3
          have t0 : decide ((j : Int) < 3) = true := by simp; omega
          have i1 : (j : Int) < 3 := by omega
          have z1 : wr.cell? ⟨bw, j, none⟩ = some (.slice ls[j].1 ls[j].2.1 ls[j].2.2) := by
            obtain ⟨b', o', e', h'⟩ := cont_at (HOU.out.only.sl (HOA.out.sl HCC.out (fun y hy _ => by cases hy; exact HBW.out)) (fun y hy _ => by cases hy; exact HBW.out)) j hlt
            cases e'; rw [Nat.zero_add] at h'; exact h'
          have HIN := Lib.hid (HOU.out.enter hlt HFB.out)
          have hnj : ls[j].2.1 ≤ 1024 := HNN.out ls[j] (List.getElem_mem hlt)
          clear HOU
          obtain ⟨nj, hnj2⟩ : ∃ nj, nj = ls[j].2.1 := ⟨_, rfl⟩
          have HNJ := Lib.hid hnj2
          rw [← hnj2] at z1 hnj
          obtain ⟨aj, haj⟩ : ∃ x, x = ls[j].1 := ⟨_, rfl⟩
          obtain ⟨cj, hcj⟩ : ∃ x, x = ls[j].2.2 := ⟨_, rfl⟩
          rw [← haj, ← hcj] at z1
          have HV0 := Lib.hid (show r3 ls[j] = .slice aj nj cj by unfold r3; rw [haj, hcj, hnj2])
          rw [HV0.out] at HIN
          clear haj hcj hnj2
          go_wp2
          go_loopw [18, 20, 21] (fun v' vl' i wq => ∃ (k : Nat) (v vl : Value) (us : List Value), v = v' ∧ vl = vl' ∧ k ≤ 40 ∧ i = .int .i64 k ∧ Inv w2.heap.size ls wA j hlt k k wq v us vl) (fun _ _ i _ => 40 - (intOf i).toNat)
          case atStart => exact ⟨0, _, _, us, rfl, rfl, by omega, rfl, HIN.out⟩
          case round =>
            clear HIN z1
            obtain ⟨k, v7, vl, us7, hv7, hvl, hk, rfl, hin⟩ := hrel
            subst hv7 hvl
            have HIN := Lib.hid hin
            clear hin
            by_cases hlk : k < 40
            case pos =>
              have t1 : decide ((k : Int) < 40) = true := by simp; omega
              have hw1 : IntKind.i64.wrap (6000 + (j : Int)) = 6000 + (j : Int) := by rw [IntKind.wrap_i64]; omega
              have hw2 : IntKind.u64.wrap (6000 + (j : Int)) = 6000 + (j : Int) := by rw [IntKind.wrap_u64]; omega
              have h63 : nj + k + 1 ≤ maxLen := by unfold maxLen; omega
              have hby : (nj + k + 1) * 8 ≤ 140737488355328 := by omega
              have hbs : w2.heap.size ≤ (wr.alloc (.cells #[.int .u64 (6000 + (j : Int))] 24)).heap.size := by have h1 := HIN.out.only.size; have h3 := HBA.out; simp; omega
              have hown : wr.ownsRow w2.heap.size 24 1 vl (nj + k) (c6 j nj k) := by rw [HNJ.out]; exact HIN.out.last
              have HOWN := Lib.hid (hown.alloc (.cells #[.int .u64 (6000 + (j : Int))] 24))
              clear hown
              go_wp2_with (at_builtin; refine wpList_append_two rfl _ _ 22 rfl w2.heap.size 24 (.int .u64 0) 1 8 Try.underlying22 Try.info24 rfl (by decide) vl (nj + k) (c6 j nj k) (by rfl) HOWN.out ⟨wr.heap.size, 0, none⟩ 1 1 [.int .u64 (6000 + (j : Int))] (by rfl) (by decide) (by rfl) (sl_new _ _ _ _) (one_i _) h63 hby hbs ?hi1)
              intro v2 w5 ho2 hg2 hl2
              have HIN2 := Lib.hid (Inv.appL HFB.out HIN.out hlk (by rw [← HNJ.out]; exact ho2) hg2 (by simpa only [World.size_alloc, ne_eq] using hl2))
              clear ho2 hg2 hl2 HIN HOWN
              obtain ⟨g7, c7, cur7, hv7, -⟩ := owns_cases HIN2.out.last (by omega)
              rw [← HNJ.out] at hv7
              have hv7 : v2 = .slice (some ⟨g7, 0, none⟩) (nj + (k + 1)) c7 := hv7
              subst hv7
              have h1c : ∀ u ∈ ([.slice (some ⟨g7, 0, none⟩) (nj + (k + 1)) c7] : List Value), u.oneCell' = true := by intro u hu; rw [List.mem_singleton] at hu; subst hu; rfl
              have h63 : 40 * j + k + 1 ≤ maxLen := by unfold maxLen; omega
              have hby : (40 * j + k + 1) * 24 ≤ 140737488355328 := by omega
              have hbs : wA.heap.size ≤ (w5.alloc (.cells #[.slice (some ⟨g7, 0, none⟩) (nj + (k + 1)) c7] 22)).heap.size := by have h1 := HIN2.out.only.size; simp; omega
              have HOV := Lib.hid (HIN2.out.own.alloc (.cells #[.slice (some ⟨g7, 0, none⟩) (nj + (k + 1)) c7] 22))
              go_wp2_with (at_builtin; refine wpList_append_sl_at rfl _ _ 63 rfl wA.heap.size 22 (.slice none 0 0) 1 24 Try.underlying63 info22 rfl (by decide) v7 (40 * j + k) us7 (by rfl) HOV.out (some ⟨w5.heap.size, 0, none⟩) 1 1 [.slice (some ⟨g7, 0, none⟩) (nj + (k + 1)) c7] (by rfl) (fun h => by cases h) (by rfl) (sl_new _ _ _ _) h1c h63 hby hbs ?ho1)
              intro v3 w9 ho3 hg3 hl3
              have HIN3 := Lib.hid (show Inv w2.heap.size ls wA j hlt (k + 1) (k + 1) w9 v3 (us7 ++ [.slice (some ⟨g7, 0, none⟩) (nj + (k + 1)) c7]) (.slice (some ⟨g7, 0, none⟩) (nj + (k + 1)) c7) by
                have h1 := HIN2.out
                rw [HNJ.out] at h1 ho3 hg3 ⊢
                exact h1.appG ho3 hg3)
              clear ho3 hg3 hl3 HIN2 HOV
              go_wp2
              go_roundw
              case rel => exact ⟨k + 1, _, _, _, rfl, rfl, by omega, by go_num, HIN3.out⟩
              case measure => simp [intOf]; omega
            case neg =>
              have t1 : decide ((k : Int) < 40) = false := by simp; omega
              have HOU := Lib.hid (show Out w2.heap.size ls wA (j + 1) wr v7 us7 by have h := HIN.out; obtain rfl : k = 40 := (by omega); exact h.leave)
              clear HIN
              go_wp2
              go_roundw
              case rel => exact ⟨j + 1, _, _, rfl, by omega, by go_num, HOU.out⟩
              case measure => simp [intOf]; omega
        case neg =>
          have t0 : decide ((j : Int) < 3) = false := by simp; omega
          obtain ⟨wB, hwB⟩ : ∃ W, W = wr := ⟨_, rfl⟩
          subst hwB
          have HOB := Lib.hid (show Out w2.heap.size ls wA 3 wB v us by have h := HOU.out; obtain rfl : j = 3 := (by omega); exact h)
          obtain ⟨gv, cv, curv, hvv, -⟩ := owns_cases HOB.out.own (by omega)
          have hvv : v = .slice (some ⟨gv, 0, none⟩) 120 cv := hvv
          subst hvv
          have HCB := Lib.hid (HOB.out.only.sl (HOA.out.sl HCC.out (fun y hy _ => by cases hy; exact HBW.out)) (fun y hy _ => by cases hy; exact HBW.out))
          clear HOU
          go_wp2
          -- the looking
          go_loopw [22, 23, 24] (fun i x23 x24 wr => ∃ t : Nat, t ≤ 120 ∧ i = .int .i64 t ∧ wB = wr) (fun i _ _ _ => 120 - (intOf i).toNat)
          case atStart => exact ⟨0, by omega, rfl, rfl⟩
          case round =>
            obtain ⟨t, ht, rfl, rfl⟩ := hrel
            by_cases hlt : t < 120
            case pos =>
              have t0 : decide ((t : Int) < 120) = true := by simp; omega
              have i1 : (t : Int) < 120 := by omega
              obtain ⟨j, hj⟩ : ∃ j, j = t / 40 := ⟨_, rfl⟩
              have hq1 : (t : Int).tdiv 40 = (j : Int) := by rw [hj]; exact (Int.ofNat_tdiv t 40).symm
              have hq2 : IntKind.i64.wrap (j : Int) = (j : Int) := by rw [IntKind.wrap_i64]; omega
              have hj3 : j < 3 := by omega
              have hlj : j < ls.length := by rw [HL3.out]; exact hj3
              have i2 : (j : Int) < 3 := by omega
              obtain ⟨q, hq⟩ : ∃ q, q = t % 40 := ⟨_, rfl⟩
              have hq40 : q < 40 := by omega
              have htl : t < us.length := by rw [HOB.out.len]; omega
              obtain ⟨a8, c8, hu8, hv8, -⟩ := HOB.out.vers t us[t] (List.getElem?_eq_getElem htl) j hlj hj
              rw [← hq] at hu8 hv8
              have z1 : wB.cell? ⟨bw, j, none⟩ = some (.slice ls[j].1 ls[j].2.1 ls[j].2.2) := by
                obtain ⟨b', o', e', h'⟩ := cont_at HCB.out j hlj
                cases e'; rw [Nat.zero_add] at h'; exact h'
              have z2 : wB.cell? ⟨gv, t, none⟩ = some (.slice a8 (ls[j].2.1 + (q + 1)) c8) := by rw [← hu8]; exact owns_cell HOB.out.own t (List.getElem?_eq_getElem htl)
              have HV8 := Lib.hid hv8
              have HL8 := Lib.hid (HOB.out.lists j hlj)
              have hn : ls[j].2.1 ≤ 1024 := HNN.out ls[j] (List.getElem_mem hlj)
              generalize ls[j] = rj at z1 z2 HV8 HL8 hn
              obtain ⟨aj, n, cj⟩ := rj
              simp only at z1 z2 HV8 HL8 hn
              have HJQ := Lib.hid (And.intro hj hq)
              clear hu8 hv8 htl hj hq
              go_wp2
              go_loopw [24] (fun i wq => ∃ k : Nat, k ≤ n + (q + 1) ∧ i = .int .i64 k ∧ wB = wq) (fun i _ => n + (q + 1) - (intOf i).toNat)
              case atStart => exact ⟨0, by omega, rfl, rfl⟩
              case round =>
                obtain ⟨k, hk, rfl, rfl⟩ := hrel
                by_cases hlk : k < n
                · have t1 : decide ((k : Int) < ((n + (q + 1) : Nat) : Int)) = true := by simp; omega
                  have t1' : decide ((k : Int) < ((n : Int) + ((q : Int) + 1))) = true := by simp; omega
                  have t2 : decide ((k : Int) < (n : Int)) = true := by simp; omega
                  have t3 : decide ((k : Int) ≥ (n : Int)) = false := by simp; omega
                  have i3 : (k : Int) < (n : Int) := by omega
                  have i4 : (k : Int) < ((n + (q + 1) : Nat) : Int) := by omega
                  have i4' : (k : Int) < ((n : Int) + ((q : Int) + 1)) := by omega
                  have i5 : ¬ (k : Int) ≥ (n : Int) := by omega
                  obtain ⟨g8, o8, he8, hc8⟩ := HV8.out.sl (by intro e; have := congrArg List.length e; rw [c6_len] at this; simp at this)
                  obtain ⟨gj, oj, hej, hcj⟩ := HL8.out.sl (by intro e; have := congrArg List.length e; rw [c5_len] at this; simp at this; omega)
                  subst he8 hej
                  have x1 := hc8 k (by rw [c6_len]; omega)
                  rw [c6_low _ _ _ _ hlk] at x1
                  have x2 := hcj k (by rw [c5_len]; omega)
                  rw [← c6_zero, c6_low _ _ _ _ hlk] at x2
                  unfold V5 at x1 x2
                  have hw1 : IntKind.i64.wrap (5000 + (j : Int)) = 5000 + (j : Int) := by rw [IntKind.wrap_i64]; omega
                  have hw2 : IntKind.u64.wrap (5000 + (j : Int)) = 5000 + (j : Int) := by rw [IntKind.wrap_u64]; omega
                  have f0 : ((5000 + (j : Int)) != (5000 + (j : Int))) = false := by simp
                  clear hc8 hcj
                  go_wp2
                  go_roundw
                  case rel => exact ⟨k + 1, by omega, by go_num, by trivial⟩
                  case measure => simp [intOf]; omega
                · by_cases hl4 : k < n + (q + 1)
                  · obtain ⟨p, rfl⟩ : ∃ p, k = n + p := ⟨k - n, by omega⟩
                    have hp : p < q + 1 := by omega
                    have t1 : decide (((n + p : Nat) : Int) < ((n + (q + 1) : Nat) : Int)) = true := by simp; omega
                    have t1' : decide (((n + p : Nat) : Int) < ((n : Int) + ((q : Int) + 1))) = true := by simp; omega
                    have t2 : decide (((n + p : Nat) : Int) < (n : Int)) = false := by simp; omega
                    have t3 : decide (((n + p : Nat) : Int) ≥ (n : Int)) = true := by simp; omega
                    have i3 : ¬ ((n + p : Nat) : Int) < (n : Int) := by omega
                    have i4 : ((n + p : Nat) : Int) < ((n + (q + 1) : Nat) : Int) := by omega
                    have i4' : ((n + p : Nat) : Int) < ((n : Int) + ((q : Int) + 1)) := by omega
                    have i5 : ((n + p : Nat) : Int) ≥ (n : Int) := by omega
                    obtain ⟨g8, o8, he8, hc8⟩ := HV8.out.sl (by intro e; have := congrArg List.length e; rw [c6_len] at this; simp at this)
                    subst he8
                    have x1 := hc8 (n + p) (by rw [c6_len]; omega)
                    rw [c6_high _ _ _ _ hp] at x1
                    unfold V6 at x1
                    have hw1 : IntKind.i64.wrap (6000 + (j : Int)) = 6000 + (j : Int) := by rw [IntKind.wrap_i64]; omega
                    have hw2 : IntKind.u64.wrap (6000 + (j : Int)) = 6000 + (j : Int) := by rw [IntKind.wrap_u64]; omega
                    have f0 : ((6000 + (j : Int)) != (6000 + (j : Int))) = false := by simp
                    clear hc8
                    go_wp2
                    go_roundw
                    case rel => exact ⟨n + p + 1, by omega, by go_num, by trivial⟩
                    case measure => simp [intOf]; omega
                  · have t1 : decide ((k : Int) < ((n + (q + 1) : Nat) : Int)) = false := by simp; omega
                    have t1' : decide ((k : Int) < ((n : Int) + ((q : Int) + 1))) = false := by simp; omega
                    go_wp2
                    go_roundw
                    case rel => exact ⟨t + 1, by omega, by go_num, by trivial⟩
                    case measure => simp [intOf]; omega
            case neg =>
              have t0 : decide ((t : Int) < 120) = false := by simp; omega
              have hon : Only (ownS ls) w8 wB := HOA.out.trans HOB.out.only (fun b hb => .inl hb)
              have HBF := Lib.hid (show Below w.heap.size w wB from HB8.out.trans (hon.below HB8.out.size (fun b hb => by have h1 := HLOC.out b hb; have h2 := HB2.out.size; omega)))
              have HWS := Lib.hid (show Sl wB aw (vQ la) from hon.sl HOWS.out.1 (fun y hy _ => HOWS.out.2 y hy))
              have HLF := Lib.hid (show Lent wB l gf cf by
                obtain ⟨cur, hh, h1⟩ := HFZ.out.1
                exact ⟨cur, hon.row hh HFZ.out.2, h1⟩)
              have K4 := Lib.hid (SHa.out wB HLF.out)
              clear hon
              go_wp2_with fail
              refine K4.out.mono ?_
              rintro e wC ⟨a9, c9, rfl, ho9, hn9, hb9⟩
              have K5 := Lib.hid (same_any a9 aw c9 cw la la wC (by unfold maxLen; have := LA.out; omega) rfl (owns_sl ho9 (vQ_length _)) (HWS.out.kept hb9))
              rw [show decide (la = la) = true by simp] at K5
              have HBG := Lib.hid (HBF.out.trans (hb9.mono HBF.out.size))
              have HLF := Lib.hid (HLF.out.kept hb9)
              clear ho9 hn9 hb9 K4
              go_wp2_with fail
              refine K5.out.mono ?_
              rintro e wD ⟨rfl, hq⟩
              have HBH := Lib.hid (HBG.out.trans ((hq.below _).mono HBG.out.size))
              have K6 := Lib.hid (kept_any gf cf ga gc l wD HLN.out (HLF.out.kept (hq.below _)) (HS.out.kept HBH.out))
              clear hq K5
              go_wp2_with fail
              refine K6.out.mono ?_
              rintro e wE ⟨rfl, hq⟩
              have HBI := Lib.hid (HBH.out.trans ((hq.below _).mono HBH.out.size))
              clear hq K6
              go_wp2
              go_ret
              exact ⟨rfl, HBI.out⟩

theorem own : ownKnob Try.prog.godebug = none := by kernel_rfl
theorem laidOut : laidOutB Try.prog = true := by kernel_rfl
set_option maxRecDepth 100000 in
theorem lifted (os : Os) (started : os.Started) (H : Type) (enc : TypeId × Value → H) :
    ReturnsInHanded {} Try.checked os 10 .any (Rows.countOwnSpec.pre6 enc Try.prog Try.f10 Rows.countOwnRow.domain false) (Rows.countOwnSpec.post enc Try.prog Try.f10 false true false false) := by
  refine returnsInHanded_of_change_sized (C := Try.checked) own started (by kernel_rfl) Try.func10
    (ChangeSpec.witness6 (enc := enc) (C := Try.checked) false ⟨#[], #[.int .u64 0, .int .u64 0, .slice none 0 0], []⟩ 8 (by kernel_rfl) (by kernel_rfl) (by kernel_rfl) (by kernel_rfl)) ?_
  intro W base args ds gs before hval0 hW hcnd hsz0 _
  have hsz : (DataW.weightsEach Try.prog (Try.f10.params.toList ++ Rows.countOwnSpec.plain.varTypes Try.prog) (ds ++ gs)).all (· ≤ reachBytes) = true := hsz0
  clear hsz0
  have hval : ∀ (j : Nat) t v, Try.f10.params[j]? = some t → args[j]? = some v → Value.okWide Try.prog W .any base t v := hval0
  have hW' := hW
  obtain ⟨p, q, hA0, hV, rfl, hfz, hnd⟩ := hW
  have hA : DataW.TrodAll enc Try.prog W 0 (fun _ => true) true Try.f10.params.toList args.toList ds p := hA0
  rw [Try.params10] at hA hval hsz
  obtain ⟨v0, vs0, d0, ds0, p0, q0, hargs, rfl, rfl, h0, r0⟩ := trodAll_cons hA
  obtain ⟨v1, vs1, d1, ds1, p1, q1, rfl, rfl, rfl, h1, r1⟩ := trodAll_cons r0
  obtain ⟨v2, vs2, d2, ds2, p2, q2, rfl, rfl, rfl, h2, r2⟩ := trodAll_cons r1
  obtain ⟨rfl, rfl, rfl⟩ := trodAll_nil r2
  obtain rfl : args = #[v0, v1, v2] := by cases args; simp_all
  obtain ⟨rfl, rfl⟩ := trodVars_none hV
  obtain ⟨a0, rfl, rfl, rfl, w0⟩ := open_int Try.underlying24 (hval 0 24 v0 rfl rfl) h0
  obtain ⟨x0, rfl⟩ := u64_of_wf w0
  obtain ⟨a1, rfl, rfl, rfl, w1⟩ := open_int Try.underlying24 (hval 1 24 v1 rfl rfl) h1
  obtain ⟨x1, rfl⟩ := u64_of_wf w1
  obtain ⟨a2, len2, cap2, rfl⟩ := okWide_slice Try.underlying22 (hval 2 22 v2 rfl rfl)
  have k2 := h2
  have lt2 : ∀ x ∈ p2, x.block < W.heap.size := by obtain ⟨m, hm⟩ := k2; exact DataW.trod_lt m _ _ _ hm
  obtain ⟨l2, rfl, s2, n2, m2, z2⟩ := open_u64s h2 hsz (j := 2) rfl rfl
  clear hA0 hval0
  refine (walk x0 x1 a2 cap2 l2 W s2 n2 m2 z2).mono fun e W' ⟨he, bel⟩ => ?_
  subst he
  exact ⟨_, rfl, _, _, _, [], _, [], hW', trodAll_mk1 (shut_bool Try.underlying4 _), (trodAll_cons_mk (shut_int Try.underlying24 w0) (trodAll_cons_mk (shut_int Try.underlying24 w1) (trodAll_cons_mk (Below.trod laidOut (by kernel_rfl) (of_decide_eq_true (by kernel_rfl)) k2 bel lt2) trodAll_mk0))), rfl, bel.frame _, fun h => by cases h⟩
theorem over : Rows.countOwnRow.holds Try.pinned (OpenSpec.ofChange Rows.countOwnSpec) :=
  OpenClaim.holds_of_wide 10 Try.f10 rfl rfl rfl rfl rfl rfl rfl ⟨rfl, rfl, rfl, rfl, rfl⟩ rfl rfl rfl rfl rfl (by kernel_rfl) Try.func10 (by kernel_rfl)
    (of_decide_eq_true (by kernel_rfl)) (by unfold Func.isWrapper; first | (rw [if_pos (by decide +kernel)]; kernel_rfl) | (rw [if_neg (by decide +kernel)]; exact ⟨rfl, rfl⟩))
    (fun os started H enc _ => lifted os started H enc)
theorem proved : Rows.CountOwnSaid := over
#print axioms proved
end Go.Proofs.Ytdkfaicmdbhonaa.lawCountOwn
