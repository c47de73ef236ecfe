/-
  Layer 1: words of the document's numbers, walked: word, short, plus, minus, against.
-/
import Derived.Test.YtbggibdldadpiaaRows
import Derived.Test.YtbggibdldadpiaaGen
import Derived.Test.YtbggibdldadpiaaNpw
import Derived.BigQuiet
import Derived.Deep.QuietTactic
import Derived.Deep.LoopGhost
namespace Go.Proofs.Ytbggibdldadpiaa.n01
open Go.RowKit Go.K Go.Words
set_option linter.unusedVariables false
set_option linter.unusedSimpArgs false

def vW (l : List (BitVec 32)) : List Value := l.map fun c => .int .u32 (U32 c)
theorem vW_length (l : List (BitVec 32)) : (vW l).length = l.length := by simp [vW]
theorem vW_get (l : List (BitVec 32)) (i : Nat) (h : i < l.length) : (vW l)[i]? = some (.int .u32 (U32 l[i])) := by
  simp [vW, List.getElem?_eq_getElem h]
theorem vW_append (l m : List (BitVec 32)) : vW (l ++ m) = vW l ++ vW m := by simp [vW]
theorem vW_take (l : List (BitVec 32)) (n : Nat) : vW (l.take n) = (vW l).take n := by simp [vW, List.map_take]
theorem vW_ne {l : List (BitVec 32)} {k : Nat} (h : k < l.length) : vW l ≠ [] := fun e => by
  have := congrArg List.length e
  rw [vW_length] at this
  simp only [List.length_nil] at this
  omega
theorem oneCell_vW (l : List (BitVec 32)) : ∀ u ∈ vW l, u.oneCell' = true := by
  intro u hu
  obtain ⟨c, _, rfl⟩ := List.mem_map.1 hu
  rfl
theorem Try.info75 : (Try.prog.info? 94).map (fun i => (i.zero, i.size, i.bytes)) = some (some (.int .u32 0), 1, 4) := by kernel_rfl
theorem word_any (a : Option Addr) (cap : Nat) (l : List (BitVec 32)) (i : Nat) (w : World) (hs : Sl w a (vW l)) (hl : l.length ≤ 1000000) (hi : i ≤ 1000000) :
    Calls Try.prog 60 #[.slice a l.length cap, .int .i64 i] w fun e w' => e = .returned (.int .u64 (U32 (at0 l i))) ∧ w = w' := by
  have HS := Lib.hid hs
  clear hs
  by_cases h : i < l.length
  · obtain ⟨b, off, rfl, hc⟩ := HS.out (vW_ne h)
    have h1 := hc i (by rw [vW_length]; exact h)
    rw [vW_get l i h] at h1
    have HA := Lib.hid (show U32 l[i] = U32 (at0 l i) by rw [at0_lt l i h])
    have hlo := U32_lo l[i]
    have hhi := U32_hi l[i]
    have t0 : decide ((i : Int) < (l.length : Int)) = true := by simp; omega
    have i1 : (i : Int) < (l.length : Int) := by omega
    clear hc
    go_enter Try.func60, Try.ntmps60
    go_wp2
    go_ret
    exact ⟨ret_int HA.out, rfl⟩
  · have HA := Lib.hid (show (0 : Int) = U32 (at0 l i) by rw [at0_ge l i (by omega)]; rfl)
    have t0 : decide ((i : Int) < (l.length : Int)) = false := by simp; omega
    go_enter Try.func60, Try.ntmps60
    go_wp2
    go_ret
    exact ⟨ret_int HA.out, rfl⟩
theorem short_any (a : Option Addr) (cap : Nat) (l : List (BitVec 32)) (w : World) (hs : Sl w a (vW l)) (hl : l.length ≤ 1000000) (hc : l.length ≤ cap) :
    Calls Try.prog 59 #[.slice a l.length cap] w fun e w' => ∃ n, n ≤ l.length ∧ e = .returned (.slice a n cap) ∧ norm (l.take n) ∧ val (l.take n) = val l ∧ w = w' := by
  have HS := Lib.hid hs
  clear hs
  go_enter Try.func59, Try.ntmps59
  go_wp2
  go_loop [3] (fun i => ∃ n : Nat, n ≤ l.length ∧ i = .int .i64 n ∧ val (l.take n) = val l) (fun i => (intOf i).toNat)
  case atStart => exact ⟨l.length, Nat.le_refl _, rfl, by rw [List.take_length]⟩
  case round =>
    obtain ⟨n, hn, rfl, hv⟩ := hrel
    have HV := Lib.hid hv
    clear hv
    by_cases h0 : n = 0
    · subst h0
      have i1 : (0 : Int) ≤ (cap : Int) := by omega
      go_wp2
      go_ret
      exact ⟨0, Nat.zero_le _, rfl, norm_nil, HV.out, rfl⟩
    · obtain ⟨m, rfl⟩ : ∃ m, n = m + 1 := ⟨n - 1, by omega⟩
      obtain ⟨b, off, rfl, hcell⟩ := HS.out (vW_ne (k := m) (by omega))
      have h1 := hcell m (by rw [vW_length]; omega)
      rw [vW_get l m (by omega)] at h1
      have t0 : decide (0 < ((m + 1 : Nat) : Int)) = true := by simp
      have i0 : (m : Int) + 1 - 1 = (m : Int) := by omega
      have i1 : (m : Int) < (l.length : Int) := by omega
      have i2 : (m : Int) + 1 ≤ (cap : Int) := by omega
      have hm : m < l.length := by omega
      clear hcell
      by_cases hz : l[m] = 0#32
      · have t1 : (U32 l[m] == 0) = true := by rw [hz]; rfl
        have HW := Lib.hid (show val (l.take m) = val l by rw [← HV.out, val_take_succ l m hm, hz]; rfl)
        clear hz
        go_wp2
        go_round
        case rel => exact ⟨m, by omega, by go_num, HW.out⟩
        case measure => simp [intOf]
      · have t1 : (U32 l[m] == 0) = false := beq_eq_false_iff_ne.2 (fun h => hz (U32_inj h))
        have HN := Lib.hid (norm_of l m hm hz)
        clear hz
        go_wp2
        go_ret
        exact ⟨m + 1, by omega, rfl, HN.out, HV.out, rfl⟩
theorem sl_take' {W : World} {a : Option Addr} {vs : List Value} (h : Sl W a vs) (n : Nat) : Sl W a (vs.take n) := by
  intro hne
  have h0 : vs ≠ [] := fun e => by subst e; simp at hne
  obtain ⟨b, off, rfl, hc⟩ := h h0
  refine ⟨b, off, rfl, fun i hi => ?_⟩
  rw [List.length_take] at hi
  rw [hc i (by omega), List.getElem?_take_of_lt (by omega)]
theorem ofNat_U32 (n : Nat) : U32 (BitVec.ofNat 32 n) = (n : Int) % 4294967296 := by
  unfold U32; rw [BitVec.toNat_ofNat]; omega
theorem vW_snoc (out : List (BitVec 32)) (n : Nat) (z : Int) (h : z = (n : Int) % 4294967296) : vW out ++ [.int .u32 z] = vW (out ++ [BitVec.ofNat 32 n]) := by
  rw [vW_append, h, ← ofNat_U32]; rfl
/-- Words that lie in a block from number B on. -/
structure SlN (B : Nat) (W : World) (ad : Option Addr) (l : List (BitVec 32)) : Prop where
  sl : Sl W ad (vW l)
  ge : ∀ x, ad = some x → B ≤ x.block
/-- What an owned row of words is: its slice. -/
theorem owns_slice {W : World} {base n : Nat} {v : Value} {l : List (BitVec 32)} (h : W.ownsRow base 94 1 v n (vW l)) (hn : l.length = n) : ∃ ad cap, v = .slice ad l.length cap ∧ l.length ≤ cap ∧ SlN base W ad l := by
  rcases h.2 with ⟨hv, h0⟩ | ⟨g, cap, cur, hv, hg, hh, hnc, hcm, hcs, htk⟩
  · refine ⟨none, 0, ?_, by omega, ?_, fun x hx => by cases hx⟩
    · rw [hv]; congr 1; omega
    · have : l = [] := List.eq_nil_of_length_eq_zero (by omega)
      rw [this]; exact Sl.nil _ _
  · subst hv
    exact ⟨_, cap, by rw [hn], by omega, sl_of_owns h, fun x hx => by cases hx; exact hg⟩
set_option maxRecDepth 100000 in
set_option maxHeartbeats 1000000 in
theorem plus_any (a b : Option Addr) (c d : Nat) (l m : List (BitVec 32)) (w : World) (ha : Sl w a (vW l)) (hb : Sl w b (vW m)) (hl : l.length ≤ 1000) (hm : m.length ≤ 1000) :
    Calls Try.prog 57 #[.slice a l.length c, .slice b m.length d] w fun e w' => ∃ ad cap o, e = .returned (.slice ad o.length cap) ∧ o.length ≤ cap ∧ norm o ∧ val o = val l + val m ∧ SlN w.heap.size w' ad o ∧ Below w.heap.size w w' := by
  have HA := Lib.hid ha
  have HB := Lib.hid hb
  clear ha hb
  go_enter Try.func57, Try.ntmps57
  go_wp2
  go_loopw [5, 6, 7] (fun v q i wr => ∃ (k : Nat) (out : List (BitVec 32)) (r : Nat), (k ≤ l.length ∨ k ≤ m.length) ∧ i = .int .i64 k ∧ q = .int .u64 (r : Int) ∧ plusSt l m out r k ∧ wr.ownsRow w.heap.size 94 1 v k (vW out) ∧ Below w.heap.size w wr) (fun _ _ i _ => 1000 - (intOf i).toNat)
  case atStart => exact ⟨0, [], 0, .inl (Nat.zero_le _), rfl, rfl, ⟨rfl, Nat.zero_le _, rfl⟩, World.ownsRow_nil _ _ _ _, Below.refl _ _⟩
  case round =>
    obtain ⟨k, out, r, hk, rfl, rfl, hst, hown, hbl⟩ := hrel
    have HO := Lib.hid hown
    have HBL := Lib.hid hbl
    have HST := Lib.hid hst
    have hr := hst.2.1
    clear hown hbl hst
    by_cases hlt : k < l.length ∨ k < m.length
    · have HW1 := Lib.hid (show ∀ W, Below w.heap.size w W → Calls Try.prog 60 #[.slice a l.length c, .int .i64 k] W fun e w' => e = .returned (.int .u64 (U32 (at0 l k))) ∧ W = w' from
        fun W hW => word_any a c l k W (HA.out.kept hW) (by omega) (by omega))
      have HW2 := Lib.hid (show ∀ W, Below w.heap.size w W → Calls Try.prog 60 #[.slice b m.length d, .int .i64 k] W fun e w' => e = .returned (.int .u64 (U32 (at0 m k))) ∧ W = w' from
        fun W hW => word_any b d m k W (HB.out.kept hW) (by omega) (by omega))
      have HP := Lib.hid (plus_step HST.out)
      have HV := Lib.hid (vW_snoc out ((at0 l k).toNat + (at0 m k).toNat + r) ((U32 (at0 l k) + U32 (at0 m k) + r) % 4294967296) (by unfold U32; omega))
      have hx0 := U32_lo (at0 l k)
      have hx1 := U32_hi (at0 l k)
      have hy0 := U32_lo (at0 m k)
      have hy1 := U32_hi (at0 m k)
      have hri : (r : Int) ≤ 1 := by omega
      have HQ := Lib.hid (show (U32 (at0 l k) + U32 (at0 m k) + r) / 4294967296 = (((at0 l k).toNat + (at0 m k).toNat + r) / 4294967296 : Nat) by unfold U32; omega)
      generalize U32 (at0 l k) = x at *
      generalize U32 (at0 m k) = y at *
      by_cases h1 : k < l.length
      case' pos =>
        have t1 : decide ((k : Int) < (l.length : Int)) = true := by simp; omega
      case' neg =>
        have t1 : decide ((k : Int) < (l.length : Int)) = false := by simp; omega
        have t2 : decide ((k : Int) < (m.length : Int)) = true := by simp; omega
      all_goals
        go_wp2_with fail
        refine (HW1.out _ HBL.out).mono ?_
        rintro e w1 ⟨rfl, rfl⟩
        go_wp2_with fail
        refine (HW2.out _ HBL.out).mono ?_
        rintro e w1 ⟨rfl, rfl⟩
        go_wp2_with (at_builtin; refine wpList_append_sl rfl _ _ 71 rfl w.heap.size 94 (.int .u32 0) 1 4 Try.underlying71 Try.info75 rfl (by decide) _ k (vW out) rfl (HO.out.alloc _) (some ⟨wr.heap.size, 0, none⟩) 1 1 [.int .u32 ((x + y + r) % 4294967296)] rfl (fun h => by cases h) rfl (sl_new wr [.int .u32 ((x + y + r) % 4294967296)] 94 (0, 0)) (one_int _ _) ?c1 ?c2 ?c3 ?c4)
        case c1 => unfold maxLen; omega
        case c2 => omega
        case c3 => have := HBL.out.size; simp; omega
        case c4 =>
          intro v2 w2 hown hgr
          have HO2 := Lib.hid (show w2.ownsRow w.heap.size 94 1 v2 (k + 1) (vW (out ++ [BitVec.ofNat 32 ((at0 l k).toNat + (at0 m k).toNat + r)])) by rw [← HV.out]; exact hown)
          have HB2 := Lib.hid (show Below w.heap.size w w2 from (HBL.out.alloc HBL.out.size _).grown hgr (by have := HBL.out.size; simp; omega) (fun j hj => (HO.out.lt j hj).1))
          clear hown hgr
          go_wp2
          go_roundw
          case rel => exact ⟨k + 1, _, _, by omega, by go_num, by rw [← HQ.out], HP.out, HO2.out, HB2.out⟩
          case measure => simp [intOf]; omega
    · have t1 : decide ((k : Int) < (l.length : Int)) = false := by simp; omega
      have t2 : decide ((k : Int) < (m.length : Int)) = false := by simp; omega
      have hri : (r : Int) ≤ 1 := by omega
      have HV := Lib.hid (vW_snoc out r (r : Int) (by omega))
      have HE := Lib.hid (plus_end HST.out (by omega) (by omega))
      have HLn := Lib.hid HST.out.1
      go_wp2_with (at_builtin; refine wpList_append_sl rfl _ _ 71 rfl w.heap.size 94 (.int .u32 0) 1 4 Try.underlying71 Try.info75 rfl (by decide) _ k (vW out) rfl (HO.out.alloc _) (some ⟨wr.heap.size, 0, none⟩) 1 1 [.int .u32 (r : Int)] rfl (fun h => by cases h) rfl (sl_new wr [.int .u32 (r : Int)] 94 (0, 0)) (one_int _ _) ?c1 ?c2 ?c3 ?c4)
      case c1 => unfold maxLen; omega
      case c2 => omega
      case c3 => have := HBL.out.size; simp; omega
      case c4 =>
        intro v2 w2 hown hgr
        have hO2 : w2.ownsRow w.heap.size 94 1 v2 (k + 1) (vW (out ++ [BitVec.ofNat 32 r])) := by rw [← HV.out]; exact hown
        have HB2 := Lib.hid (show Below w.heap.size w w2 from (HBL.out.alloc HBL.out.size _).grown hgr (by have := HBL.out.size; simp; omega) (fun j hj => (HO.out.lt j hj).1))
        obtain ⟨ad, cap, rfl, hcap, hsl⟩ := owns_slice hO2 (by rw [List.length_append, HLn.out]; rfl)
        have HS2 := Lib.hid hsl
        have HL2 := Lib.hid (show (out ++ [BitVec.ofNat 32 r]).length ≤ 1000000 by rw [List.length_append, HLn.out]; show k + 1 ≤ _; omega)
        clear hown hgr hO2 hsl
        generalize out ++ [BitVec.ofNat 32 r] = o at *
        go_wp2_with fail
        refine (short_any ad cap o _ HS2.out.sl HL2.out hcap).mono ?_
        rintro e w3 ⟨n, hn, rfl, hnm, hv, rfl⟩
        have HN := Lib.hid hnm
        have HVV := Lib.hid hv
        clear hnm hv
        go_wp2
        go_ret
        exact ⟨ad, cap, o.take n, by rw [List.length_take, Nat.min_eq_left hn]; rfl, by rw [List.length_take]; omega, HN.out, by rw [HVV.out, HE.out], ⟨by rw [vW_take]; exact sl_take' HS2.out.sl n, HS2.out.ge⟩, HB2.out⟩
set_option maxRecDepth 100000 in
set_option maxHeartbeats 1000000 in
theorem minus_any (a b : Option Addr) (c d : Nat) (l m : List (BitVec 32)) (w : World) (ha : Sl w a (vW l)) (hb : Sl w b (vW m)) (hl : l.length ≤ 1000) (hm : m.length ≤ 1000) (hml : m.length ≤ l.length) (hle : val m ≤ val l) :
    Calls Try.prog 58 #[.slice a l.length c, .slice b m.length d] w fun e w' => ∃ ad cap o, e = .returned (.slice ad o.length cap) ∧ o.length ≤ cap ∧ norm o ∧ val o = val l - val m ∧ SlN w.heap.size w' ad o ∧ Below w.heap.size w w' := by
  have HA := Lib.hid ha
  have HB := Lib.hid hb
  have HLE := Lib.hid hle
  clear ha hb hle
  go_enter Try.func58, Try.ntmps58
  go_wp2
  go_loopw [5, 6, 7] (fun v q i wr => ∃ (k : Nat) (out : List (BitVec 32)) (r : Nat), k ≤ l.length ∧ i = .int .i64 k ∧ q = .int .u64 (r : Int) ∧ minusSt l m out r k ∧ wr.ownsRow w.heap.size 94 1 v k (vW out) ∧ Below w.heap.size w wr) (fun _ _ i _ => 1000 - (intOf i).toNat)
  case atStart => exact ⟨0, [], 0, Nat.zero_le _, rfl, rfl, ⟨rfl, Nat.zero_le _, rfl⟩, World.ownsRow_nil _ _ _ _, Below.refl _ _⟩
  case round =>
    obtain ⟨k, out, r, hk, rfl, rfl, hst, hown, hbl⟩ := hrel
    have HO := Lib.hid hown
    have HBL := Lib.hid hbl
    have HST := Lib.hid hst
    have hr := hst.2.1
    clear hown hbl hst
    by_cases hlt : k < l.length
    · have HW1 := Lib.hid (show ∀ W, Below w.heap.size w W → Calls Try.prog 60 #[.slice a l.length c, .int .i64 k] W fun e w' => e = .returned (.int .u64 (U32 (at0 l k))) ∧ W = w' from
        fun W hW => word_any a c l k W (HA.out.kept hW) (by omega) (by omega))
      have HW2 := Lib.hid (show ∀ W, Below w.heap.size w W → Calls Try.prog 60 #[.slice b m.length d, .int .i64 k] W fun e w' => e = .returned (.int .u64 (U32 (at0 m k))) ∧ W = w' from
        fun W hW => word_any b d m k W (HB.out.kept hW) (by omega) (by omega))
      have HP := Lib.hid (minus_step HST.out)
      have hxn := (at0 l k).isLt
      have hyn := (at0 m k).isLt
      have HV := Lib.hid (vW_snoc out ((at0 l k).toNat + 4294967296 - (at0 m k).toNat - r) ((U32 (at0 l k) + 4294967296 - U32 (at0 m k) - r) % 4294967296) (by unfold U32; omega))
      have hx0 := U32_lo (at0 l k)
      have hx1 := U32_hi (at0 l k)
      have hy0 := U32_lo (at0 m k)
      have hy1 := U32_hi (at0 m k)
      have hri : (r : Int) ≤ 1 := by omega
      have HQ := Lib.hid (show 1 - (U32 (at0 l k) + 4294967296 - U32 (at0 m k) - r) / 4294967296 = ((1 - ((at0 l k).toNat + 4294967296 - (at0 m k).toNat - r) / 4294967296 : Nat) : Int) by unfold U32; omega)
      clear hxn hyn
      generalize U32 (at0 l k) = x at *
      generalize U32 (at0 m k) = y at *
      have t1 : decide ((k : Int) < (l.length : Int)) = true := by simp; omega
      go_wp2_with fail
      refine (HW1.out _ HBL.out).mono ?_
      rintro e w1 ⟨rfl, rfl⟩
      go_wp2_with fail
      refine (HW2.out _ HBL.out).mono ?_
      rintro e w1 ⟨rfl, rfl⟩
      go_wp2_with (at_builtin; refine wpList_append_sl rfl _ _ 71 rfl w.heap.size 94 (.int .u32 0) 1 4 Try.underlying71 Try.info75 rfl (by decide) _ k (vW out) rfl (HO.out.alloc _) (some ⟨wr.heap.size, 0, none⟩) 1 1 [.int .u32 ((x + 4294967296 - y - r) % 4294967296)] rfl (fun h => by cases h) rfl (sl_new wr [.int .u32 ((x + 4294967296 - y - r) % 4294967296)] 94 (0, 0)) (one_int _ _) ?c1 ?c2 ?c3 ?c4)
      case c1 => unfold maxLen; omega
      case c2 => omega
      case c3 => have := HBL.out.size; simp; omega
      case c4 =>
        intro v2 w2 hown hgr
        have HO2 := Lib.hid (show w2.ownsRow w.heap.size 94 1 v2 (k + 1) (vW (out ++ [BitVec.ofNat 32 ((at0 l k).toNat + 4294967296 - (at0 m k).toNat - r)])) by rw [← HV.out]; exact hown)
        have HB2 := Lib.hid (show Below w.heap.size w w2 from (HBL.out.alloc HBL.out.size _).grown hgr (by have := HBL.out.size; simp; omega) (fun j hj => (HO.out.lt j hj).1))
        clear hown hgr
        go_wp2
        go_roundw
        case rel => exact ⟨k + 1, _, _, by omega, by go_num, by rw [← HQ.out], HP.out, HO2.out, HB2.out⟩
        case measure => simp [intOf]; omega
    · obtain rfl : k = l.length := by omega
      have t1 : decide ((l.length : Int) < (l.length : Int)) = false := by simp
      have HE := Lib.hid (minus_end HST.out hml HLE.out)
      have HLn := Lib.hid HST.out.1
      obtain ⟨ad, cap, rfl, hcap, hsl⟩ := owns_slice HO.out HST.out.1
      have HS2 := Lib.hid hsl
      have HL2 := Lib.hid (show out.length ≤ 1000000 by rw [HLn.out]; omega)
      clear hsl
      go_wp2_with fail
      refine (short_any ad cap out _ HS2.out.sl HL2.out hcap).mono ?_
      rintro e w3 ⟨n, hn, rfl, hnm, hv, rfl⟩
      have HN := Lib.hid hnm
      have HVV := Lib.hid hv
      clear hnm hv
      go_wp2
      go_ret
      exact ⟨ad, cap, out.take n, by rw [List.length_take, Nat.min_eq_left hn]; rfl, by rw [List.length_take]; omega, HN.out, by rw [HVV.out, HE.out], ⟨by rw [vW_take]; exact sl_take' HS2.out.sl n, HS2.out.ge⟩, HBL.out⟩
def cmpZ (x y : Nat) : Int := if x < y then -1 else if y < x then 1 else 0
set_option maxRecDepth 100000 in
theorem against_any (a b : Option Addr) (c d : Nat) (l m : List (BitVec 32)) (w : World) (ha : Sl w a (vW l)) (hb : Sl w b (vW m)) (hl : l.length ≤ 1000) (hm : m.length ≤ 1000) (hnl : norm l) (hnm : norm m) :
    Calls Try.prog 38 #[.slice a l.length c, .slice b m.length d] w fun e w' => e = .returned (.int .i64 (cmpZ (val l) (val m))) ∧ Qt w w' := by
  have HA := Lib.hid ha
  have HB := Lib.hid hb
  by_cases hlen : l.length = m.length
  · have HL := Lib.hid hlen
    have t0 : ((l.length : Int) != (m.length : Int)) = false := by rw [bne_eq_false_iff_eq]; omega
    clear ha hb hnl hnm hlen
    go_enter Try.func38, Try.ntmps38
    go_wp2
    go_loopw [5] (fun i wr => ∃ k : Nat, k ≤ l.length ∧ i = .int .i64 ((k : Int) - 1) ∧ l.drop k = m.drop k ∧ Qt w wr) (fun i _ => (intOf i + 1).toNat)
    case atStart => exact ⟨l.length, Nat.le_refl _, rfl, by rw [List.drop_length, HL.out, List.drop_length], Qt.refl _⟩
    case round =>
      obtain ⟨k, hk, rfl, hd, hbl⟩ := hrel
      have HD := Lib.hid hd
      have HBL := Lib.hid hbl
      clear hd hbl
      by_cases h0 : k = 0
      · subst h0
        have HE := Lib.hid (show l = m by have := HD.out; rwa [List.drop_zero, List.drop_zero] at this)
        go_wp2
        go_ret
        exact ⟨by rw [HE.out]; simp [cmpZ], HBL.out⟩
      · obtain ⟨j, rfl⟩ : ∃ j, k = j + 1 := ⟨k - 1, by omega⟩
        have i0 : ((j + 1 : Nat) : Int) - 1 = (j : Int) := by omega
        have i0' : (j : Int) + 1 - 1 = (j : Int) := by omega
        have hjl : j < l.length := by omega
        have hjm : j < m.length := by rw [← HL.out]; omega
        have i1 : (j : Int) < (l.length : Int) := by omega
        have i2 : (j : Int) < (m.length : Int) := by omega
        obtain ⟨b1, o1, rfl, hc1⟩ := (HBL.out.sl HA.out) (vW_ne hjl)
        obtain ⟨b2, o2, rfl, hc2⟩ := (HBL.out.sl HB.out) (vW_ne hjm)
        have h1 := hc1 j (by rw [vW_length]; exact hjl)
        have h2 := hc2 j (by rw [vW_length]; exact hjm)
        rw [vW_get l j hjl] at h1
        rw [vW_get m j hjm] at h2
        clear hc1 hc2
        by_cases he : l[j] = m[j]
        · have e1 : (U32 l[j] != U32 m[j]) = false := by rw [he]; simp
          have HD2 := Lib.hid (show l.drop j = m.drop j by rw [List.drop_eq_getElem_cons hjl, List.drop_eq_getElem_cons hjm, he, HD.out])
          clear he
          go_wp2
          go_quiet (fail)
          go_wp2
          go_roundw
          case rel => exact ⟨j, by omega, by go_num, HD2.out, HBL.out.trans ⟨_, rfl⟩⟩
          case measure => simp [intOf]
        · have e1 : (U32 l[j] != U32 m[j]) = true := by rw [U32_bne]; simpa using he
          have hne : l[j].toNat ≠ m[j].toNat := fun h => he (BitVec.eq_of_toNat_eq h)
          by_cases hlt : l[j].toNat < m[j].toNat
          · have e2 : decide (U32 l[j] < U32 m[j]) = true := decide_eq_true (by unfold U32; omega)
            have HV := Lib.hid (show cmpZ (val l) (val m) = -1 by unfold cmpZ; rw [if_pos (cmp_at l m j hjl hjm HL.out HD.out hlt)])
            clear hlt hne he
            go_wp2
            go_quiet (fail)
            go_wp2
            go_quiet (fail)
            go_wp2
            go_ret
            exact ⟨by rw [HV.out]; rfl, HBL.out.trans ⟨_, rfl⟩⟩
          · have e2 : decide (U32 l[j] < U32 m[j]) = false := decide_eq_false (by unfold U32; omega)
            have HV := Lib.hid (show cmpZ (val l) (val m) = 1 by
              have := cmp_at m l j hjm hjl HL.out.symm HD.out.symm (by omega)
              unfold cmpZ; rw [if_neg (by omega), if_pos this])
            clear hlt hne he
            go_wp2
            go_quiet (fail)
            go_wp2
            go_quiet (fail)
            go_wp2
            go_ret
            exact ⟨by rw [HV.out]; rfl, HBL.out.trans ⟨_, rfl⟩⟩
  · have t0 : ((l.length : Int) != (m.length : Int)) = true := by rw [bne_iff_ne]; omega
    by_cases hlt : l.length < m.length
    · have t1 : decide ((l.length : Int) < (m.length : Int)) = true := by simp; omega
      have HV := Lib.hid (show cmpZ (val l) (val m) = -1 by unfold cmpZ; rw [if_pos (lt_of_len l m hnm hlt)])
      clear ha hb hnl hnm
      go_enter Try.func38, Try.ntmps38
      go_wp2
      go_ret
      exact ⟨by rw [HV.out]; rfl, Qt.refl _⟩
    · have t1 : decide ((l.length : Int) < (m.length : Int)) = false := by simp; omega
      have HV := Lib.hid (show cmpZ (val l) (val m) = 1 by
        have := lt_of_len m l hnl (by omega)
        unfold cmpZ; rw [if_neg (by omega), if_pos this])
      clear ha hb hnl hnm
      go_enter Try.func38, Try.ntmps38
      go_wp2
      go_ret
      exact ⟨by rw [HV.out]; rfl, Qt.refl _⟩
end Go.Proofs.Ytbggibdldadpiaa.n01

