/-
  Layer 3, the reference: totals of finite words, sums, differences.
-/
import Derived.Test.YtoaecmoihbifoaaNm
namespace Go.Proofs.Ytoaecmoihbifoaa
open Go.RowKit Go.K Go.R
set_option linter.unusedVariables false
set_option linter.unusedSimpArgs false
/-- Words as they lie. -/
def wv (l : List Nat) : List Value := l.map fun (x : Nat) => Value.int .u32 (x : Int)
theorem wv_length (l : List Nat) : (wv l).length = l.length := List.length_map ..
theorem wv_at {W : World} {a : Option Addr} {l : List Nat} (h : Sl W a (wv l)) (k : Nat) (hk : k < l.length) : ∃ b o, a = some ⟨b, o, none⟩ ∧ W.cell? ⟨b, o + k, none⟩ = some (.int .u32 (l[k] : Int)) := by
  obtain ⟨b, o, e, hc⟩ := h (by intro h0; have := wv_length l; rw [h0] at this; simp at this; omega)
  refine ⟨b, o, e, ?_⟩
  rw [hc k (by rw [wv_length]; exact hk)]
  unfold wv
  rw [List.getElem?_map, List.getElem?_eq_getElem hk]; rfl
def sumL (f : Nat → Nat) (l : List Nat) : Nat := (l.map f).sum
theorem sumL_push (f : Nat → Nat) (l : List Nat) (x : Nat) : sumL f (l ++ [x]) = sumL f l + f x := by unfold sumL; simp
theorem mV_lt {x s : Nat} (hs : s = 728) (h : rg x < 2139095040) : mV x < 2 ^ s := by
  unfold mV
  have h1 := pm_lt (rg x)
  have h2 := pe_le _ h
  exact sc_lt (s := 24) (Nat.lt_of_lt_of_le h1 (by decide)) (by omega)
theorem sumL_lt {f : Nat → Nat} {c : Nat} : ∀ l : List Nat, (∀ x ∈ l, f x ≤ c) → sumL f l ≤ l.length * c
  | [], _ => by simp [sumL]
  | x :: l, h => by
    have h1 := sumL_lt l (fun y hy => h y (List.mem_cons_of_mem _ hy))
    have h2 := h x (List.mem_cons_self ..)
    have e : sumL f (x :: l) = f x + sumL f l := by unfold sumL; simp
    rw [e, List.length_cons, Nat.succ_mul]; omega
theorem sum_len {f : Nat → Nat} {l : List Nat} (s : Nat) (hs : s = 728) (hl : l.length < 1152921504606846976) (hf : ∀ x ∈ l, f x ≤ 2 ^ s) : (digs (sumL f l)).length ≤ 1000 := by
  have h1 := sumL_lt l hf
  have h2 : l.length * 2 ^ s < 2 ^ 60 * 2 ^ s := Nat.mul_lt_mul_of_pos_right hl (Nat.two_pow_pos _)
  rw [← Nat.pow_add] at h2
  exact Nat.le_trans (dlen (s := 60 + s) (k := 50) (Nat.lt_of_le_of_lt h1 h2) (by omega)) (by decide)
theorem upV_le {x s : Nat} (hs : s = 728) (h : rg x < 2139095040) : upV x ≤ 2 ^ s := by
  have := mV_lt hs h
  unfold upV
  split
  · exact Nat.zero_le _
  · exact Nat.le_of_lt this
theorem dnV_le {x s : Nat} (hs : s = 728) (h : rg x < 2139095040) : dnV x ≤ 2 ^ s := by
  have := mV_lt hs h
  unfold dnV
  split
  · exact Nat.le_of_lt this
  · exact Nat.zero_le _
theorem mV_len {x : Nat} (h : rg x < 2139095040) : (digs (mV x)).length ≤ 1000 := by
  obtain ⟨s, hs⟩ : ∃ s, s = 728 := ⟨_, rfl⟩
  exact Nat.le_trans (dlen (s := s) (k := 50) (mV_lt hs h) (by omega)) (by decide)
theorem up_len {l : List Nat} (hl : l.length < 1152921504606846976) (hx : ∀ x ∈ l, x < 4294967296 ∧ rg x < 2139095040) : (digs (sumL upV l)).length ≤ 1000 := by
  obtain ⟨s, hs⟩ : ∃ s, s = 728 := ⟨_, rfl⟩
  exact sum_len s hs hl (fun x h => upV_le hs (hx x h).2)
theorem dn_len {l : List Nat} (hl : l.length < 1152921504606846976) (hx : ∀ x ∈ l, x < 4294967296 ∧ rg x < 2139095040) : (digs (sumL dnV l)).length ≤ 1000 := by
  obtain ⟨s, hs⟩ : ∃ s, s = 728 := ⟨_, rfl⟩
  exact sum_len s hs hl (fun x h => dnV_le hs (hx x h).2)
/-- The total of finite words. -/
def totV (l : List Nat) : Nat := if l.all (fun x => x == 2147483648) then 2147483648 else nearD (sumL upV l) (sumL dnV l) false
theorem near1_nat (T : Nat) (tv : Value) (w : World) (h0 : 0 < T) (hTl : (digs T).length ≤ 1000) (hb : Bg w tv T) :
    Calls Try.prog 55 #[.agg #[.int .i64 1, tv, .int .i64 0, .int .i64 0, .int .i64 0, .int .i64 0]] w fun r w' => r = .returned (.int .u32 ((Ieee.single.nearest false T (-600) : Nat) : Int)) ∧ Below w.heap.size w w' :=
  near1_any T tv 0 0 0 0 T (-600) w h0 (Int.le_refl _) (sc_self T (-600)).symm hTl hb
theorem digs_mono {a b k : Nat} (h : a ≤ b) (hb : (digs b).length ≤ k) : (digs a).length ≤ k := by
  refine Nat.le_trans (digs_len (k := (digs b).length) ?_) hb
  have h1 := val_lt (digs b) (digs_lt b)
  rw [val_digs] at h1
  omega
set_option maxRecDepth 100000 in
set_option maxHeartbeats 8000000 in
theorem rtotal_fin (l : List Nat) (ad : Option Addr) (cap : Nat) (w : World) (h0 : 0 < l.length) (hl : l.length < 1152921504606846976) (hx : ∀ x ∈ l, x < 4294967296 ∧ rg x < 2139095040) (hs : Sl w ad (wv l)) :
    Calls Try.prog 38 #[.slice ad l.length cap] w fun r w' => r = .returned (.int .u32 ((totV l : Nat) : Int)) ∧ Below w.heap.size w w' := by
  have HS := Lib.hid hs
  have HX := Lib.hid hx
  have HU := Lib.hid (up_len hl hx)
  have HD := Lib.hid (dn_len hl hx)
  have HUP := Lib.hid (fun i => up_len (l := l.take i) (by simp; omega) (fun x h => hx x (List.mem_of_mem_take h)))
  have HDP := Lib.hid (fun i => dn_len (l := l.take i) (by simp; omega) (fun x h => hx x (List.mem_of_mem_take h)))
  have tl : decide ((l.length : Int) > 0) = true := by simp; omega
  clear hs hx
  go_enter Try.func38, Try.ntmps38
  go_wp2
  go_loopw [3, 4, 5, 6, 7, 8, 9] (fun u' d' hi lo tn ii x9 wr => ∃ (i : Nat) (u d : Value) (t : Bool), u = u' ∧ d = d' ∧ hi = .bool false ∧ lo = .bool false ∧ tn = .bool t ∧ ii = .int .i64 i ∧ i ≤ l.length ∧ t = (l.take i).all (fun x => x == 2147483648) ∧ Bg wr u (sumL upV (l.take i)) ∧ Bg wr d (sumL dnV (l.take i)) ∧ Below w.heap.size w wr) (fun _ _ _ _ _ ii _ _ => l.length - (intOf ii).toNat)
  case atStart => exact ⟨0, _, _, true, rfl, rfl, rfl, rfl, rfl, rfl, Nat.zero_le _, rfl, Bg.nil _, Bg.nil _, Below.refl _ _⟩
  case round =>
    obtain ⟨i, u, d, t, hu, hd, rfl, rfl, rfl, rfl, hi, ht, hbu, hbd, hbel⟩ := hrel
    subst hu hd
    have HB := Lib.hid hbel
    have HBU := Lib.hid hbu
    have HBD := Lib.hid hbd
    have HT := Lib.hid ht
    clear hbel hbu hbd ht
    by_cases hlt : i < l.length
    · have t0 : decide ((i : Int) < (l.length : Int)) = true := by simp; omega
      have i1 : (i : Int) < (l.length : Int) := by omega
      obtain ⟨b, o, hea, z1⟩ := wv_at (HS.out.kept HB.out) i hlt
      subst hea
      obtain ⟨hxl, hxf⟩ := HX.out _ (List.getElem_mem hlt)
      have HTK := Lib.hid (List.take_succ_eq_append_getElem hlt)
      have HUL := HUP.out (i + 1)
      have HDL := HDP.out (i + 1)
      have HUI := Lib.hid (HUP.out i)
      have HDI := Lib.hid (HDP.out i)
      generalize l[i] = x at z1 hxl hxf HTK
      have HCX := Lib.hid (fun W => rclean_any x W)
      have hnn : nanW x = false := by rw [nanW_rg]; exact decide_eq_false (by omega)
      have hcx : cleanW x = x := by unfold cleanW; rw [hnn]; rfl
      rw [hcx] at HCX
      have HFX := Lib.hid (fun W => finite_any x W)
      have hfw : finW x = true := decide_eq_true hxf
      rw [hfw] at HFX
      have HSC := Lib.hid (fun W => scaled_any x hxl hxf W)
      have hS := sign_and x hxl
      have n1 : ((x : Int) == 2143289344) = false := by
        rw [beq_eq_false_iff_ne]; intro h
        have h2 : x = 2143289344 := by omega
        rw [h2] at hnn; exact absurd hnn (by decide)
      have n2 : ((x : Int) == 2139095040) = false := by
        rw [beq_eq_false_iff_ne]; intro h
        have h2 : x = 2139095040 := by omega
        rw [h2] at hxf; exact absurd hxf (by decide)
      have n3 : ((x : Int) == 4286578688) = false := by
        rw [beq_eq_false_iff_ne]; intro h
        have h2 : x = 4286578688 := by omega
        rw [h2] at hxf; exact absurd hxf (by decide)
      have HUU := Lib.hid (show sumL upV (l.take (i + 1)) = sumL upV (l.take i) + upV x by rw [HTK.out, sumL_push])
      have HDD := Lib.hid (show sumL dnV (l.take (i + 1)) = sumL dnV (l.take i) + dnV x by rw [HTK.out, sumL_push])
      have hv1 := mV_len hxf
      have HP := Lib.hid (fun W v1 v2 n (h1 : Bg W v1 n) (h2 : Bg W v2 (mV x)) (h3 : (digs n).length ≤ 1000) => plus_any v1 v2 n (mV x) W h1 h2 h3 hv1)
      have HTT := Lib.hid (show (l.take (i + 1)).all (fun x => x == 2147483648) = (t && (x == 2147483648)) by rw [HTK.out, List.all_append, ← HT.out]; simp)
      clear hnn hcx hfw hv1 HUL HDL
      by_cases hxs : x = 2147483648
      · have hsg : sgn x = true := by rw [hxs]; decide
        cases t
        · have t4 : ((x : Int) == 2147483648) = true := by rw [beq_iff_eq]; omega
          have HXS := Lib.hid (show (x == 2147483648) = true by rw [beq_iff_eq]; exact hxs)
          have HSG := Lib.hid (show sgn x = true from hsg)
          rw [hsg] at hS
          have tS : (((wd true 0 : Nat) : Int) == 0) = false := by decide
          have tN : (((wd true 0 : Nat) : Int) != 0) = true := by decide
          have HU0 := Lib.hid (show upV x = 0 by unfold upV; rw [hsg]; rfl)
          have HD0 := Lib.hid (show dnV x = mV x by unfold dnV; rw [hsg]; rfl)
          clear hsg hxs
          generalize wd true 0 = S at *
          go_wp2_with ((first | (go_at_call 10; (with_reducible refine (HCX.out _).mono ?_); rintro r1 y1 ⟨rfl, rfl⟩) | (go_at_call 53; (with_reducible refine (HFX.out _).mono ?_); rintro r1 y1 ⟨rfl, rfl⟩) | (go_at_call 68; (with_reducible refine (HSC.out _).mono ?_); rintro r1 y2 ⟨v2, rfl, hb2, hl2⟩) | (go_at_call 64; (with_reducible refine (HP.out _ _ _ _ (HBD.out.kept hl2) hb2 HDI.out).mono ?_); rintro r1 y3 ⟨v3, rfl, hb3, hl3⟩)))
          have HB5 := Lib.hid ((HB.out.trans (hl2.mono HB.out.size)).trans (hl3.mono (HB.out.trans (hl2.mono HB.out.size)).size))
          have HBU5 := Lib.hid (show Bg y3 u (sumL upV (l.take (i + 1))) by rw [HUU.out, HU0.out, Nat.add_zero]; exact (HBU.out.kept hl2).kept hl3)
          have HBD5 := Lib.hid (show Bg y3 v3 (sumL dnV (l.take (i + 1))) by rw [HDD.out, HD0.out]; exact hb3)
          clear hb2 hl2 hb3 hl3
          go_roundw
          case rel => exact ⟨i + 1, _, _, false, rfl, rfl, rfl, rfl, rfl, by go_num, by omega, by rw [HTT.out, HXS.out]; rfl, HBU5.out, HBD5.out, HB5.out⟩
          case measure => simp [intOf]; omega
        · have t4 : ((x : Int) == 2147483648) = true := by rw [beq_iff_eq]; omega
          have HXS := Lib.hid (show (x == 2147483648) = true by rw [beq_iff_eq]; exact hxs)
          have HSG := Lib.hid (show sgn x = true from hsg)
          rw [hsg] at hS
          have tS : (((wd true 0 : Nat) : Int) == 0) = false := by decide
          have tN : (((wd true 0 : Nat) : Int) != 0) = true := by decide
          have HU0 := Lib.hid (show upV x = 0 by unfold upV; rw [hsg]; rfl)
          have HD0 := Lib.hid (show dnV x = mV x by unfold dnV; rw [hsg]; rfl)
          clear hsg hxs
          generalize wd true 0 = S at *
          go_wp2_with ((first | (go_at_call 10; (with_reducible refine (HCX.out _).mono ?_); rintro r1 y1 ⟨rfl, rfl⟩) | (go_at_call 53; (with_reducible refine (HFX.out _).mono ?_); rintro r1 y1 ⟨rfl, rfl⟩) | (go_at_call 68; (with_reducible refine (HSC.out _).mono ?_); rintro r1 y2 ⟨v2, rfl, hb2, hl2⟩) | (go_at_call 64; (with_reducible refine (HP.out _ _ _ _ (HBD.out.kept hl2) hb2 HDI.out).mono ?_); rintro r1 y3 ⟨v3, rfl, hb3, hl3⟩)))
          have HB5 := Lib.hid ((HB.out.trans (hl2.mono HB.out.size)).trans (hl3.mono (HB.out.trans (hl2.mono HB.out.size)).size))
          have HBU5 := Lib.hid (show Bg y3 u (sumL upV (l.take (i + 1))) by rw [HUU.out, HU0.out, Nat.add_zero]; exact (HBU.out.kept hl2).kept hl3)
          have HBD5 := Lib.hid (show Bg y3 v3 (sumL dnV (l.take (i + 1))) by rw [HDD.out, HD0.out]; exact hb3)
          clear hb2 hl2 hb3 hl3
          go_roundw
          case rel => exact ⟨i + 1, _, _, true, rfl, rfl, rfl, rfl, rfl, by go_num, by omega, by rw [HTT.out, HXS.out]; rfl, HBU5.out, HBD5.out, HB5.out⟩
          case measure => simp [intOf]; omega
      · cases hsg : sgn x
        · cases t
          · have t4 : ((x : Int) == 2147483648) = false := by rw [beq_eq_false_iff_ne]; omega
            have HXS := Lib.hid (show (x == 2147483648) = false by rw [beq_eq_false_iff_ne]; exact hxs)
            have HSG := Lib.hid (show sgn x = false from hsg)
            rw [hsg] at hS
            have tS : (((wd false 0 : Nat) : Int) == 0) = true := by decide
            have tN : (((wd false 0 : Nat) : Int) != 0) = false := by decide
            have HU0 := Lib.hid (show upV x = mV x by unfold upV; rw [hsg]; rfl)
            have HD0 := Lib.hid (show dnV x = 0 by unfold dnV; rw [hsg]; rfl)
            clear hsg hxs
            generalize wd false 0 = S at *
            go_wp2_with ((first | (go_at_call 10; (with_reducible refine (HCX.out _).mono ?_); rintro r1 y1 ⟨rfl, rfl⟩) | (go_at_call 53; (with_reducible refine (HFX.out _).mono ?_); rintro r1 y1 ⟨rfl, rfl⟩) | (go_at_call 68; (with_reducible refine (HSC.out _).mono ?_); rintro r1 y2 ⟨v2, rfl, hb2, hl2⟩) | (go_at_call 64; (with_reducible refine (HP.out _ _ _ _ (HBU.out.kept hl2) hb2 HUI.out).mono ?_); rintro r1 y3 ⟨v3, rfl, hb3, hl3⟩)))
            have HB5 := Lib.hid ((HB.out.trans (hl2.mono HB.out.size)).trans (hl3.mono (HB.out.trans (hl2.mono HB.out.size)).size))
            have HBU5 := Lib.hid (show Bg y3 v3 (sumL upV (l.take (i + 1))) by rw [HUU.out, HU0.out]; exact hb3)
            have HBD5 := Lib.hid (show Bg y3 d (sumL dnV (l.take (i + 1))) by rw [HDD.out, HD0.out, Nat.add_zero]; exact (HBD.out.kept hl2).kept hl3)
            clear hb2 hl2 hb3 hl3
            go_roundw
            case rel => exact ⟨i + 1, _, _, false, rfl, rfl, rfl, rfl, rfl, by go_num, by omega, by rw [HTT.out, HXS.out]; rfl, HBU5.out, HBD5.out, HB5.out⟩
            case measure => simp [intOf]; omega
          · have t4 : ((x : Int) == 2147483648) = false := by rw [beq_eq_false_iff_ne]; omega
            have HXS := Lib.hid (show (x == 2147483648) = false by rw [beq_eq_false_iff_ne]; exact hxs)
            have HSG := Lib.hid (show sgn x = false from hsg)
            rw [hsg] at hS
            have tS : (((wd false 0 : Nat) : Int) == 0) = true := by decide
            have tN : (((wd false 0 : Nat) : Int) != 0) = false := by decide
            have HU0 := Lib.hid (show upV x = mV x by unfold upV; rw [hsg]; rfl)
            have HD0 := Lib.hid (show dnV x = 0 by unfold dnV; rw [hsg]; rfl)
            clear hsg hxs
            generalize wd false 0 = S at *
            go_wp2_with ((first | (go_at_call 10; (with_reducible refine (HCX.out _).mono ?_); rintro r1 y1 ⟨rfl, rfl⟩) | (go_at_call 53; (with_reducible refine (HFX.out _).mono ?_); rintro r1 y1 ⟨rfl, rfl⟩) | (go_at_call 68; (with_reducible refine (HSC.out _).mono ?_); rintro r1 y2 ⟨v2, rfl, hb2, hl2⟩) | (go_at_call 64; (with_reducible refine (HP.out _ _ _ _ (HBU.out.kept hl2) hb2 HUI.out).mono ?_); rintro r1 y3 ⟨v3, rfl, hb3, hl3⟩)))
            have HB5 := Lib.hid ((HB.out.trans (hl2.mono HB.out.size)).trans (hl3.mono (HB.out.trans (hl2.mono HB.out.size)).size))
            have HBU5 := Lib.hid (show Bg y3 v3 (sumL upV (l.take (i + 1))) by rw [HUU.out, HU0.out]; exact hb3)
            have HBD5 := Lib.hid (show Bg y3 d (sumL dnV (l.take (i + 1))) by rw [HDD.out, HD0.out, Nat.add_zero]; exact (HBD.out.kept hl2).kept hl3)
            clear hb2 hl2 hb3 hl3
            go_roundw
            case rel => exact ⟨i + 1, _, _, false, rfl, rfl, rfl, rfl, rfl, by go_num, by omega, by rw [HTT.out, HXS.out]; rfl, HBU5.out, HBD5.out, HB5.out⟩
            case measure => simp [intOf]; omega
        · cases t
          · have t4 : ((x : Int) == 2147483648) = false := by rw [beq_eq_false_iff_ne]; omega
            have HXS := Lib.hid (show (x == 2147483648) = false by rw [beq_eq_false_iff_ne]; exact hxs)
            have HSG := Lib.hid (show sgn x = true from hsg)
            rw [hsg] at hS
            have tS : (((wd true 0 : Nat) : Int) == 0) = false := by decide
            have tN : (((wd true 0 : Nat) : Int) != 0) = true := by decide
            have HU0 := Lib.hid (show upV x = 0 by unfold upV; rw [hsg]; rfl)
            have HD0 := Lib.hid (show dnV x = mV x by unfold dnV; rw [hsg]; rfl)
            clear hsg hxs
            generalize wd true 0 = S at *
            go_wp2_with ((first | (go_at_call 10; (with_reducible refine (HCX.out _).mono ?_); rintro r1 y1 ⟨rfl, rfl⟩) | (go_at_call 53; (with_reducible refine (HFX.out _).mono ?_); rintro r1 y1 ⟨rfl, rfl⟩) | (go_at_call 68; (with_reducible refine (HSC.out _).mono ?_); rintro r1 y2 ⟨v2, rfl, hb2, hl2⟩) | (go_at_call 64; (with_reducible refine (HP.out _ _ _ _ (HBD.out.kept hl2) hb2 HDI.out).mono ?_); rintro r1 y3 ⟨v3, rfl, hb3, hl3⟩)))
            have HB5 := Lib.hid ((HB.out.trans (hl2.mono HB.out.size)).trans (hl3.mono (HB.out.trans (hl2.mono HB.out.size)).size))
            have HBU5 := Lib.hid (show Bg y3 u (sumL upV (l.take (i + 1))) by rw [HUU.out, HU0.out, Nat.add_zero]; exact (HBU.out.kept hl2).kept hl3)
            have HBD5 := Lib.hid (show Bg y3 v3 (sumL dnV (l.take (i + 1))) by rw [HDD.out, HD0.out]; exact hb3)
            clear hb2 hl2 hb3 hl3
            go_roundw
            case rel => exact ⟨i + 1, _, _, false, rfl, rfl, rfl, rfl, rfl, by go_num, by omega, by rw [HTT.out, HXS.out]; rfl, HBU5.out, HBD5.out, HB5.out⟩
            case measure => simp [intOf]; omega
          · have t4 : ((x : Int) == 2147483648) = false := by rw [beq_eq_false_iff_ne]; omega
            have HXS := Lib.hid (show (x == 2147483648) = false by rw [beq_eq_false_iff_ne]; exact hxs)
            have HSG := Lib.hid (show sgn x = true from hsg)
            rw [hsg] at hS
            have tS : (((wd true 0 : Nat) : Int) == 0) = false := by decide
            have tN : (((wd true 0 : Nat) : Int) != 0) = true := by decide
            have HU0 := Lib.hid (show upV x = 0 by unfold upV; rw [hsg]; rfl)
            have HD0 := Lib.hid (show dnV x = mV x by unfold dnV; rw [hsg]; rfl)
            clear hsg hxs
            generalize wd true 0 = S at *
            go_wp2_with ((first | (go_at_call 10; (with_reducible refine (HCX.out _).mono ?_); rintro r1 y1 ⟨rfl, rfl⟩) | (go_at_call 53; (with_reducible refine (HFX.out _).mono ?_); rintro r1 y1 ⟨rfl, rfl⟩) | (go_at_call 68; (with_reducible refine (HSC.out _).mono ?_); rintro r1 y2 ⟨v2, rfl, hb2, hl2⟩) | (go_at_call 64; (with_reducible refine (HP.out _ _ _ _ (HBD.out.kept hl2) hb2 HDI.out).mono ?_); rintro r1 y3 ⟨v3, rfl, hb3, hl3⟩)))
            have HB5 := Lib.hid ((HB.out.trans (hl2.mono HB.out.size)).trans (hl3.mono (HB.out.trans (hl2.mono HB.out.size)).size))
            have HBU5 := Lib.hid (show Bg y3 u (sumL upV (l.take (i + 1))) by rw [HUU.out, HU0.out, Nat.add_zero]; exact (HBU.out.kept hl2).kept hl3)
            have HBD5 := Lib.hid (show Bg y3 v3 (sumL dnV (l.take (i + 1))) by rw [HDD.out, HD0.out]; exact hb3)
            clear hb2 hl2 hb3 hl3
            go_roundw
            case rel => exact ⟨i + 1, _, _, false, rfl, rfl, rfl, rfl, rfl, by go_num, by omega, by rw [HTT.out, HXS.out]; rfl, HBU5.out, HBD5.out, HB5.out⟩
            case measure => simp [intOf]; omega
    · have t0 : decide ((i : Int) < (l.length : Int)) = false := by simp; omega
      have hie : l.take i = l := List.take_of_length_le (by omega)
      rw [hie] at HBU HBD HT
      have HV := Lib.hid (show totV l = if t then 2147483648 else nearD (sumL upV l) (sumL dnV l) false by unfold totV; rw [← HT.out])
      clear hie HT tl
      cases t
      · have HC := Lib.hid (fun W (h : Below wr.heap.size wr W) => compare_any u d _ _ W (HBU.out.kept h) (HBD.out.kept h) HU.out HD.out)
        generalize sumL upV l = U at *
        generalize sumL dnV l = D at *
        rcases Nat.lt_trichotomy U D with h | h | h
        · have HM := Lib.hid (fun W (h2 : Below wr.heap.size wr W) => minus_any d u D U W (HBD.out.kept h2) (HBU.out.kept h2) (Nat.le_of_lt h) HD.out)
          have hdl := digs_mono (show D - U ≤ D by omega) HD.out
          have HN := Lib.hid (fun W v (h2 : Bg W v (D - U)) => near1_nat (D - U) v W (by omega) hdl h2)
          have HR := Lib.hid (show totV l = wd true (Ieee.single.nearest false (D - U) (-600)) by rw [HV.out]; unfold nearD; rw [if_neg (by decide), if_neg (by omega), if_pos h])
          rw [icmp_lt_eq h] at HC
          have hor := sign_or true (Ieee.single.nearest false (D - U) (-600)) (by have := nearest_le (D - U) (-600); omega)
          have hor2 : bits .or .u32 2147483648 ((Ieee.single.nearest false (D - U) (-600) : Nat) : Int) = ((wd true (Ieee.single.nearest false (D - U) (-600)) : Nat) : Int) := hor
          clear hor hdl h
          generalize Ieee.single.nearest false (D - U) (-600) = NN at *
          generalize wd true NN = T at *
          go_wp2_with ((first | (go_at_call 69; (with_reducible refine (HC.out _ (Below.refl _ _)).mono ?_); rintro r1 y1 ⟨rfl, hl1⟩) | (go_at_call 70; (with_reducible refine (HM.out _ hl1).mono ?_); rintro r2 y2 ⟨v2, rfl, hb2, hl2⟩; obtain ⟨ad2, cap2, rfl, hds2⟩ := hb2; have hb2 := bg_mk hds2) | (go_at_call 55; (with_reducible refine (HN.out _ _ hb2).mono ?_); rintro r3 y3 ⟨rfl, hl3⟩)))
          go_ret
          exact ⟨by rw [HR.out]; rfl, HB.out.trans ((hl1.trans (hl2.mono hl1.size)).trans (hl3.mono (hl1.trans (hl2.mono hl1.size)).size) |>.mono HB.out.size)⟩
        · have HR := Lib.hid (show totV l = 0 by rw [HV.out]; unfold nearD; rw [if_neg (by decide), if_neg (by omega), if_neg (by omega)]; rfl)
          rw [icmp_eq.2 h] at HC
          clear h
          go_wp2_with ((first | (go_at_call 69; (with_reducible refine (HC.out _ (Below.refl _ _)).mono ?_); rintro r1 y1 ⟨rfl, hl1⟩)))
          go_ret
          exact ⟨by rw [HR.out]; rfl, HB.out.trans (hl1.mono HB.out.size)⟩
        · have HM := Lib.hid (fun W (h2 : Below wr.heap.size wr W) => minus_any u d U D W (HBU.out.kept h2) (HBD.out.kept h2) (Nat.le_of_lt h) HU.out)
          have hdl := digs_mono (show U - D ≤ U by omega) HU.out
          have HN := Lib.hid (fun W v (h2 : Bg W v (U - D)) => near1_nat (U - D) v W (by omega) hdl h2)
          have HR := Lib.hid (show totV l = Ieee.single.nearest false (U - D) (-600) by rw [HV.out]; unfold nearD; rw [if_neg (by decide), if_pos h])
          rw [icmp_gt_eq h] at HC
          clear hdl h
          generalize Ieee.single.nearest false (U - D) (-600) = NN at *
          go_wp2_with ((first | (go_at_call 69; (with_reducible refine (HC.out _ (Below.refl _ _)).mono ?_); rintro r1 y1 ⟨rfl, hl1⟩) | (go_at_call 70; (with_reducible refine (HM.out _ hl1).mono ?_); rintro r2 y2 ⟨v2, rfl, hb2, hl2⟩; obtain ⟨ad2, cap2, rfl, hds2⟩ := hb2; have hb2 := bg_mk hds2) | (go_at_call 55; (with_reducible refine (HN.out _ _ hb2).mono ?_); rintro r3 y3 ⟨rfl, hl3⟩)))
          go_ret
          exact ⟨by rw [HR.out]; rfl, HB.out.trans ((hl1.trans (hl2.mono hl1.size)).trans (hl3.mono (hl1.trans (hl2.mono hl1.size)).size) |>.mono HB.out.size)⟩
      · go_wp2
        go_ret
        exact ⟨by rw [HV.out]; rfl, HB.out⟩
end Go.Proofs.Ytoaecmoihbifoaa
