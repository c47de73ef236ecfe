/-
  Proved: SumTells answers true for every input: bits turned within eight neighbouring bytes turn the sum, and the same of it in every text of that length. No condition.
-/
import Derived.Test.YtdphcmmpkacmfaaLe
import Derived.Test.YtdphcmmpkacmfaaReg
import Derived.Test.YtdphcmmpkacmfaaOpen
namespace Go.Proofs.Ytdphcmmpkacmfaa.lawSumTells
open Go.ChangeShapes Go.WideShapes Go.ChangeAt Go.RowKit Go.K
set_option linter.unusedVariables false
set_option linter.unusedSimpArgs false
attribute [local go_sem] xor_U64 U64_ofInt

def mixL (l m : List (BitVec 8)) (k : Nat) : List (BitVec 8) := m.take k ++ l.drop k
theorem mixL_length (l m : List (BitVec 8)) (k : Nat) (h1 : k ≤ l.length) (h2 : k ≤ m.length) : (mixL l m k).length = l.length := by
  simp [mixL]; omega
theorem mixL_set (l m : List (BitVec 8)) (k : Nat) (h1 : k < l.length) (h2 : k < m.length) (t : BitVec 8) (ht : m[k]? = some t) : (mixL l m k).set k t = mixL l m (k + 1) := by
  apply List.ext_getElem?
  intro i
  simp only [mixL, List.getElem?_set, List.getElem?_append, List.length_take, List.length_append, List.length_drop, List.getElem?_take, List.getElem?_drop]
  by_cases e : k = i
  · subst e
    rw [if_pos rfl, if_pos (by omega), if_pos (by omega), if_pos (by omega)]; exact ht.symm
  · rw [if_neg e]
    by_cases h : i < k
    · rw [if_pos (by omega), if_pos (by omega), if_pos (by omega), if_pos (by omega)]
    · rw [if_neg (by omega), if_neg (by omega)]; congr 1; omega
theorem turned_at (a : Option Addr) (n c : Nat) (l : List (BitVec 8)) (p K : Nat) (mask : BitVec 64) (w : World) (hn : l.length = n) (hl : n ≤ 140737488351232) (hc : a = none → n = 0 ∧ c = 0) (ha : Sl w a (vBs l)) (hp : p ≤ n) (hK : K = min 8 (n - p)) :
    Calls Try.prog 15 #[.slice a n c, .int .i64 p, .int .u64 (U64 mask)] w fun e w' => ∃ ad cap, e = .returned (.tuple #[.slice ad n cap, .bool (anyL mask K)]) ∧
      Sl w' ad (vBs (turnL l p mask K)) ∧ Below w.heap.size w w' := by
  subst hn hK; exact turned_any a c l p mask w hl hc ha hp
set_option maxRecDepth 100000 in
set_option maxHeartbeats 1000000 in
theorem walk (a : Option Addr) (c : Nat) (l : List (BitVec 8)) (i : Int) (mask : BitVec 64) (b : Option Addr) (d : Nat) (m : List (BitVec 8)) (w : World)
   (hs : Sl w a (vBs l)) (hn : l.length ≤ c) (hm : c ≤ 140737488351232) (hz : a = none → l.length = 0 ∧ c = 0) (h1 : -9223372036854775808 ≤ i ∧ i ≤ 9223372036854775807)
   (hs' : Sl w b (vBs m)) (hn' : m.length ≤ d) (hm' : d ≤ 140737488351232) (hz' : b = none → m.length = 0 ∧ d = 0) :
    Calls Try.prog 4 #[.slice a l.length c, .int .i64 i, .int .u64 (U64 mask), .slice b m.length d] w fun e w' => e = .returned (.bool true) ∧ Below w.heap.size w w' := by
  have HA := Lib.hid hs
  have HC := Lib.hid hs'
  have HZ := Lib.hid hz
  clear hs hs' hz hz'
  go_enter Try.func4, Try.ntmps4
  go_wp2_with fail
  refine (awake_any _).mono ?_
  rintro e w1 ⟨rfl, hb1⟩
  go_wp2_with fail
  refine (place_any i l.length _ h1 (by omega)).mono ?_
  rintro e w2 ⟨rfl, rfl⟩
  obtain ⟨p, hp⟩ : ∃ p, p = placeN i l.length := ⟨_, rfl⟩
  have hpl : p ≤ l.length := by rw [hp]; exact place_le _ _
  rw [← hp]
  clear hp
  go_wp2_with fail
  refine (turned_any a c l p mask _ (by omega) HZ.out (HA.out.kept hb1) hpl).mono ?_
  rintro e w2 ⟨at_, ct, rfl, hst, hb⟩
  obtain ⟨K, hK⟩ : ∃ K, K = min 8 (l.length - p) := ⟨_, rfl⟩
  rw [← hK] at hst ⊢
  have HKK := Lib.hid hK
  have hb2 := hb1.trans (hb.mono hb1.size)
  have HT := Lib.hid hst
  clear hst hb hb1 hK
  have HX := Lib.hid (sum_turn l p mask K)
  have HX2 := Lib.hid (show ∀ m' : List (BitVec 8), m'.length = l.length → updB 0#64 m' ^^^ updB 0#64 (turnL m' p mask K) = takeL 0#64 (diffL l.length p mask K) from fun m' h => by rw [sum_turn, h])
  have HD := Lib.hid (diff_tells l.length p mask K (by have := HKK.out; omega) (by have := HKK.out; omega))
  obtain ⟨D, hD⟩ : ∃ D, D = takeL 0#64 (diffL l.length p mask K) := ⟨_, rfl⟩
  rw [← hD] at HX HX2 HD
  clear hD
  go_wp2_with fail
  refine (sum_at a l.length c l _ rfl (by unfold maxLen; omega) (HA.out.kept hb2)).mono ?_
  rintro e w3 ⟨rfl, hwt⟩
  have hb3 := hb2.trans (hwt.mono hb2.size)
  go_wp2_with fail
  refine (onto (sum_at at_ l.length ct (turnL l p mask K) _ (turnL_length _ _ _ _) (by unfold maxLen; omega) (HT.out.kept hwt)) hb3).mono ?_
  rintro e w4 ⟨rfl, hb4⟩
  clear hb2 hb3 hwt
  have hne : (!((U64 D != 0) == anyL mask K)) = false := by
    rw [show (U64 D != 0) = (D != 0#64) from U64_bne D 0#64, HD.out]; simp
  have hX := HX.out
  clear HD HT HX
  go_wp2_with (at_builtin; refine wpList_append_sl rfl _ _ 29 rfl w.heap.size 5 (.int .u8 0) 1 1 Try.underlying29 Try.info5 rfl (by decide) _ 0 [] rfl (World.ownsRow_nil _ _ _ _) a l.length c (vBs l) rfl HZ.out (by rw [vBs_length]; omega) (HA.out.kept hb4) (oneCell_vBs l) ?c1 ?c2 hb4.size ?c3)
  case c1 => unfold maxLen; omega
  case c2 => omega
  case c3 =>
    clear hne hX
    intro v1 w5 hown hgr
    have hB := hb4.grown hgr hb4.size (fun k hk => by cases hk)
    obtain ⟨ad, cap, rfl, hcap⟩ : ∃ ad cap, v1 = .slice ad l.length cap ∧ l.length ≤ cap := by
      rcases hown.2 with ⟨hv, h0⟩ | ⟨g, cap, cur, hv, hg, hh, hn, hcm, hcs, htk⟩
      · exact ⟨none, 0, by rw [hv]; congr 1; omega, by omega⟩
      · exact ⟨_, cap, hv, hn⟩
    have HO := Lib.hid hown
    have HB := Lib.hid hB
    clear hown hB hgr hb4
    go_wp2
    go_loopw [13] (fun i wr => ∃ k : Nat, k ≤ l.length ∧ k ≤ m.length ∧ i = .int .i64 k ∧ Below w.heap.size w wr ∧ wr.ownsRow w.heap.size 5 1 (.slice ad l.length cap) l.length (vBs (mixL l m k))) (fun i _ => l.length - (intOf i).toNat)
    case atStart => exact ⟨0, by omega, by omega, rfl, HB.out, by simpa [mixL] using HO.out⟩
    case round =>
      clear HB HO
      obtain ⟨k, hk1, hk2, rfl, hB, hO⟩ := hrel
      by_cases hl12 : k < l.length ∧ k < m.length
      · obtain ⟨hl1, hl2⟩ := hl12
        have hb1 : decide ((k : Int) < (l.length : Int)) = true := by simp; omega
        have hb2 : decide ((k : Int) < (m.length : Int)) = true := by simp; omega
        obtain ⟨g, cap', cu, hv, hg, hh, hn, hcm, hcs, htk⟩ := owns_cases hO (by omega)
        injection hv with hv1 hv2 hv3
        subst hv1 hv3
        rw [Nat.mul_one] at htk
        obtain ⟨t, ht⟩ : ∃ t, m[k]? = some t := ⟨_, List.getElem?_eq_getElem hl2⟩
        obtain ⟨bb, bo, rfl, hcell⟩ := (HC.out.kept hB) (vBs_ne hl2)
        have hc1 : wr.cell? ⟨bb, bo + k, none⟩ = some (.int .u8 (U8 t)) := by
          rw [hcell k (by rw [vBs_length]; exact hl2)]; simp [vBs, ht, vB]
        have hcu : ∃ y, cu[k]? = some y := ⟨_, Array.getElem?_eq_getElem (by omega)⟩
        obtain ⟨y, hcu⟩ := hcu
        have hc2 : wr.cell? ⟨g, k, none⟩ = some y := by rw [cell_of_row _ _ _ _ _ _ hh, hcu]
        have hf1 := frozen_of_row _ _ k _ _ hh
        have HT2 := Lib.hid (show (cu.setIfInBounds k (.int .u8 (U8 t))).toList.take l.length = vBs (mixL l m (k + 1)) by
          rw [Array.toList_setIfInBounds, List.take_set, htk, vBs_set, mixL_set l m k hl1 hl2 t ht])
        have HG := Lib.hid hh
        have HB := Lib.hid hB
        have HS := Lib.hid hcs
        have hcm2 := Lib.hid hcm
        clear hh hB hcs htk hO hcell hcm
        have i1 : (l.length : Int) ≤ (cap : Int) := by omega
        go_wp2
        go_roundw
        case rel =>
          exact ⟨k + 1, by omega, by omega, by go_num, HB.out.setCell hg _, by rw [vBs_length, mixL_length l m _ (by omega) (by omega), Nat.mul_one], .inr ⟨g, _, _, rfl, hg, heap_setCell_same _ _ _ _ _ _ HG.out, hn, hcm2.out, by rw [Array.size_setIfInBounds]; exact HS.out, by rw [Nat.mul_one]; exact HT2.out⟩⟩
        case measure => simp [intOf]; omega
      · have hO1 := hO.1
        have HS := Lib.hid (owns_sl hO)
        have HN := Lib.hid (show ad = none → l.length = 0 ∧ cap = 0 by
          rcases hO.2 with ⟨hv, h0⟩ | ⟨g, cap', cu, hv, _⟩
          · injection hv with _ _ h3
            exact fun _ => ⟨h0, h3⟩
          · injection hv with h1
            intro h; rw [h] at h1; cases h1)
        have HL := Lib.hid (mixL_length l m k hk1 hk2)
        generalize mixL l m k = o at HS HL
        clear hO hO1
        by_cases hl1 : k < l.length
        case' pos =>
          have hl2 : ¬ k < m.length := by omega
          have hb1 : decide ((k : Int) < (l.length : Int)) = true := by simp; omega
          have hb2 : decide ((k : Int) < (m.length : Int)) = false := by simp; omega
        case' neg =>
          have hb1 : decide ((k : Int) < (l.length : Int)) = false := by simp; omega
        all_goals
          go_wp2_with fail
          refine (turned_at ad l.length cap o p K mask _ HL.out (by omega) HN.out HS.out hpl HKK.out).mono ?_
          rintro e w6 ⟨au, cu, rfl, hsu, hb⟩
          have hb6 := hB.trans (hb.mono hB.size)
          have HU := Lib.hid hsu
          have HS6 := Lib.hid (HS.out.kept hb)
          clear hB hb hsu
          go_wp2_with fail
          refine (sum_at ad l.length cap o _ HL.out (by unfold maxLen; omega) HS6.out).mono ?_
          rintro e w7 ⟨rfl, hb⟩
          have hb7 := hb6.trans (hb.mono hb6.size)
          have HU7 := Lib.hid (HU.out.kept hb)
          clear hb6 HU HS6 hb
          go_wp2_with fail
          refine (sum_at au l.length cu (turnL o p mask K) _ ((turnL_length _ _ _ _).trans HL.out) (by unfold maxLen; omega) HU7.out).mono ?_
          rintro e w8 ⟨rfl, hb⟩
          have hb8 := hb7.trans (hb.mono hb7.size)
          have hX := HX2.out o HL.out
          have hT : (U64 D == U64 D) = true := by simp
          go_wp2
          go_ret
          exact ⟨rfl, hb8⟩
theorem own : ownKnob Try.prog.godebug = none := by kernel_rfl
theorem laidOut : laidOutB Try.prog = true := by kernel_rfl
set_option maxRecDepth 100000 in
theorem lifted (os : Os) (started : os.Started) (H : Type) (enc : TypeId × Value → H) :
    ReturnsInHanded {} Try.checked os 4 .any (Rows.sumTellsSpec.pre6 enc Try.prog Try.f4 Rows.sumTellsRow.domain false) (Rows.sumTellsSpec.post enc Try.prog Try.f4 false true false false) := by
  refine returnsInHanded_of_change_sized (C := Try.checked) own started (by kernel_rfl) Try.func4
    (ChangeSpec.witness6 (enc := enc) (C := Try.checked) false ⟨#[], #[.slice none 0 0, .int .i64 0, .int .u64 0, .slice none 0 0], []⟩ 8 (by kernel_rfl) (by kernel_rfl) (by kernel_rfl) (by kernel_rfl)) ?_
  intro W base args ds gs before hval0 hW hcnd hsz0 _
  have hsz : (DataW.weightsEach Try.prog (Try.f4.params.toList ++ Rows.sumTellsSpec.plain.varTypes Try.prog) (ds ++ gs)).all (· ≤ reachBytes) = true := hsz0
  clear hsz0
  have hval : ∀ (j : Nat) t v, Try.f4.params[j]? = some t → args[j]? = some v → Value.okWide Try.prog W .any base t v := hval0
  have hW' := hW
  obtain ⟨p, q, hA0, hV, rfl, hfz, hnd⟩ := hW
  have hA : DataW.TrodAll enc Try.prog W 0 (fun _ => true) true Try.f4.params.toList args.toList ds p := hA0
  rw [Try.params4] at hA hval hsz
  obtain ⟨v0, vs0, d0, ds0, p0, q0, hargs, rfl, rfl, h0, r0⟩ := trodAll_cons hA
  obtain ⟨v1, vs1, d1, ds1, p1, q1, rfl, rfl, rfl, h1, r1⟩ := trodAll_cons r0
  obtain ⟨v2, vs2, d2, ds2, p2, q2, rfl, rfl, rfl, h2, r2⟩ := trodAll_cons r1
  obtain ⟨v3, vs3, d3, ds3, p3, q3, rfl, rfl, rfl, h3, r3⟩ := trodAll_cons r2
  obtain ⟨rfl, rfl, rfl⟩ := trodAll_nil r3
  obtain rfl : args = #[v0, v1, v2, v3] := by cases args; simp_all
  obtain ⟨rfl, rfl⟩ := trodVars_none hV
  obtain ⟨a0, len0, cap0, rfl⟩ := okWide_slice Try.underlying29 (hval 0 29 v0 rfl rfl)
  have k0 := h0
  have lt0 : ∀ x ∈ p0, x.block < W.heap.size := by obtain ⟨m, hm⟩ := k0; exact DataW.trod_lt m _ _ _ hm
  obtain ⟨l0, rfl, s0, n0, m0, z0⟩ := open_bytes Try.underlying29 Try.underlying5 (by kernel_rfl) (by kernel_rfl) h0 hsz (j := 0) rfl rfl
  obtain ⟨a1, rfl, rfl, rfl, w1⟩ := open_int Try.underlying3 (hval 1 3 v1 rfl rfl) h1
  have b1 := i64_of_wf w1
  obtain ⟨a2, rfl, rfl, rfl, w2⟩ := open_int Try.underlying22 (hval 2 22 v2 rfl rfl) h2
  obtain ⟨x2, rfl⟩ := u64_of_wf w2
  obtain ⟨a3, len3, cap3, rfl⟩ := okWide_slice Try.underlying29 (hval 3 29 v3 rfl rfl)
  have k3 := h3
  have lt3 : ∀ x ∈ p3, x.block < W.heap.size := by obtain ⟨m, hm⟩ := k3; exact DataW.trod_lt m _ _ _ hm
  obtain ⟨l3, rfl, s3, n3, m3, z3⟩ := open_bytes Try.underlying29 Try.underlying5 (by kernel_rfl) (by kernel_rfl) h3 hsz (j := 3) rfl rfl
  clear hA0 hval0
  refine (walk a0 cap0 l0 a1 x2 a3 cap3 l3 W s0 n0 m0 z0 b1 s3 n3 m3 z3).mono fun e W' ⟨he, bel⟩ => ?_
  subst he
  exact ⟨_, rfl, _, _, _, [], _, [], hW', trodAll_mk1 (shut_bool Try.underlying4 _), (trodAll_cons_mk (Below.trod laidOut (by kernel_rfl) (of_decide_eq_true (by kernel_rfl)) k0 bel lt0) (trodAll_cons_mk (shut_int Try.underlying3 w1) (trodAll_cons_mk (shut_int Try.underlying22 w2) (trodAll_cons_mk (Below.trod laidOut (by kernel_rfl) (of_decide_eq_true (by kernel_rfl)) k3 bel lt3) trodAll_mk0)))), rfl, bel.frame _, fun h => by cases h⟩
theorem over : Rows.sumTellsRow.holds Try.pinned (OpenSpec.ofChange Rows.sumTellsSpec) :=
  OpenClaim.holds_of_wide 4 Try.f4 rfl rfl rfl rfl rfl rfl rfl ⟨rfl, rfl, rfl, rfl, rfl⟩ rfl rfl rfl rfl rfl (by kernel_rfl) Try.func4 (by kernel_rfl)
    (of_decide_eq_true (by kernel_rfl)) (by unfold Func.isWrapper; first | (rw [if_pos (by decide +kernel)]; kernel_rfl) | (rw [if_neg (by decide +kernel)]; exact ⟨rfl, rfl⟩))
    (fun os started H enc _ => lifted os started H enc)
theorem proved : Rows.SumTellsSaid := over
#print axioms proved
end Go.Proofs.Ytdphcmmpkacmfaa.lawSumTells
