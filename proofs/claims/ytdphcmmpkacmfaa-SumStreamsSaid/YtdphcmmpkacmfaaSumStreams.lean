/-
  Proved: SumStreams answers true for every script of streams. No condition.
-/
import Derived.Test.YtdphcmmpkacmfaaOb
import Derived.Test.YtdphcmmpkacmfaaReg
namespace Go.Proofs.Ytdphcmmpkacmfaa.lawSumStreams
open Go.ChangeShapes Go.WideShapes Go.ChangeAt Go.RowKit Go.K
set_option linter.unusedVariables false
set_option linter.unusedSimpArgs false
attribute [local go_sem] wrap_U8 U8_ofInt

theorem rssum_nil' (w : World) : Calls Try.prog 41 #[.pointer none] w fun e w' => e = .returned (.int .u64 0) ∧ w = w' := rssum_nil w
theorem tells_st {w W : World} {S : Sts} (h : ST w S S W) (c : Nat) (hc : c ≤ 2) :
    Calls Try.prog 31 #[.pointer (pP w.heap.size c), .pointer (pR w.heap.size c)] W fun e w' => e = .returned (.bool true) ∧ W = w' := by
  by_cases h2 : c < 2
  · rw [pP, pR, if_pos h2, if_pos h2]
    have H1 := Lib.hid (h.sp c h2)
    have H2 := Lib.hid (h.sr c h2)
    generalize w.heap.size + c = g at H1 ⊢
    generalize w.heap.size + 3 + c = g' at H2 ⊢
    generalize (S c).1 = s at H1 H2
    generalize (S c).2 = n at H1 H2
    clear h
    have e1 : (U64 s == U64 s) = true := by simp
    have e2 : ((n : Int) == (n : Int)) = true := by simp
    go_enter Try.func31, Try.ntmps31
    go_wp2_with (first
      | (go_at_call 32; refine (ssum_any g s n _ H1.out).mono ?_; rintro e w' ⟨rfl, rfl⟩)
      | (go_at_call 41; refine (rssum_any g' s n _ H2.out).mono ?_; rintro e w' ⟨rfl, rfl⟩)
      | (go_at_call 33; refine (slen_any g s n _ H1.out).mono ?_; rintro e w' ⟨rfl, rfl⟩)
      | (go_at_call 42; refine (rslen_any g' s n _ H2.out).mono ?_; rintro e w' ⟨rfl, rfl⟩))
    go_ret
    exact ⟨rfl, rfl⟩
  · rw [pP, pR, if_neg h2, if_neg h2]
    clear h
    go_enter Try.func31, Try.ntmps31
    go_wp2_with (first
      | (go_at_call 32; refine (ssum_nil _).mono ?_; rintro e w' ⟨rfl, rfl⟩)
      | (go_at_call 41; refine (rssum_nil _).mono ?_; rintro e w' ⟨rfl, rfl⟩)
      | (go_at_call 33; refine (slen_nil _).mono ?_; rintro e w' ⟨rfl, rfl⟩)
      | (go_at_call 42; refine (rslen_nil _).mono ?_; rintro e w' ⟨rfl, rfl⟩))
    go_ret
    exact ⟨rfl, rfl⟩
theorem lent_away {W W' : World} {l : List (BitVec 8)} {g cap : Nat} (h : Lent W l g cap) {r : Nat} (hg : W.grownBy W' (some r)) (hr : r ≠ g) : Lent W' l g cap := by
  obtain ⟨cur, h1, h2⟩ := h
  exact ⟨cur, (hg.block g (lt_row h1) (fun e => by injection e with e; exact hr e.symm)).trans h1, h2⟩
theorem row_away {W W' : World} {n : Nat} {o : Obj} (h : W.heap[n]? = some o) {r : Nat} (hg : W.grownBy W' (some r)) (hr : r ≠ n) : W'.heap[n]? = some o :=
  (hg.block n (lt_row h) (fun e => by injection e with e; exact hr e.symm)).trans h
theorem row_kept {W W' : World} {n : Nat} {o : Obj} (h : W.heap[n]? = some o) (hb : Below W.heap.size W W') : W'.heap[n]? = some o := (hb.block n (lt_row h)).trans h
theorem alloc_old {w : World} {n : Nat} {o p : Obj} (h : w.heap[n]? = some o) : (w.alloc p).heap[n]? = some o := by
  have := lt_row h
  show (w.heap.push p)[n]? = some o
  rw [Array.getElem?_push, if_neg (by omega)]; exact h
theorem alloc_at {w : World} {n : Nat} {o : Obj} (h : n = w.heap.size) : (w.alloc o).heap[n]? = some o := by subst h; exact heap_alloc_new _ _
def S0 : Sts := fun _ => (0#64, 0)
set_option maxRecDepth 100000 in
set_option maxHeartbeats 2000000 in
theorem walk (a : Option Addr) (len cap : Nat) (w : World) (hlc : len ≤ cap) (hcm : cap ≤ maxLen)
    (hops : 0 < len → ∃ b off, a = some ⟨b, off, none⟩ ∧ ∀ i, i < len → ∃ who kind ad dc l x long, OpAt w b (off + i * 5) who kind ad dc l x long) :
    Calls Try.prog 7 #[.slice a len cap] w fun e w' => e = .returned (.bool true) ∧ Below w.heap.size w w' := by
  have HO := Lib.hid hops
  clear hops
  unfold maxLen at hcm
  go_enter Try.func7, Try.ntmps7
  go_wp2_with (first
    | (go_at_call 25; refine (new_any _).mono ?_; rintro e w' ⟨rfl, rfl⟩)
    | (go_at_call 26; refine (rnew_any _).mono ?_; rintro e w' ⟨rfl, rfl⟩))
  refine wp_world (fun W => ST w S0 S0 W) ?_ ?_
  · refine ⟨?_, ?_, ?_, ?_, ?_, fun _ _ => by show (0 : Nat) ≤ _; omega, fun _ _ => by show (0 : Nat) ≤ _; omega⟩
    · exact ((((((Below.refl _ _).alloc (Nat.le_refl _) _).alloc (by simp) _).alloc (by simp; omega) _).alloc (by simp; omega) _).alloc (by simp; omega) _).alloc (by simp; omega) _
    · intro c hc
      have : c = 0 ∨ c = 1 := by omega
      rcases this with rfl | rfl <;> (repeat (first | (refine alloc_at ?_; simp; done) | refine alloc_old ?_))
    · intro c hc
      have : c = 0 ∨ c = 1 := by omega
      rcases this with rfl | rfl <;> (repeat (first | (refine alloc_at ?_; simp; done) | refine alloc_old ?_))
    · repeat (first | (refine alloc_at ?_; simp; done) | refine alloc_old ?_)
    · repeat (first | (refine alloc_at ?_; simp; done) | refine alloc_old ?_)
  intro W hst
  have HS := Lib.hid hst
  clear hst
  go_loopw [5] (fun i wr => ∃ (k : Nat) (S : Sts), k ≤ len ∧ i = .int .i64 k ∧ ST w S S wr) (fun i _ => len - (intOf i).toNat)
  case atStart => exact ⟨0, S0, by omega, rfl, HS.out⟩
  case round =>
    clear HS
    obtain ⟨k, S, hk, rfl, hst⟩ := hrel
    by_cases hlt : k < len
    · obtain ⟨b, off, rfl, hat⟩ := HO.out (by omega)
      obtain ⟨who, kind, ad, dc, l, x, long, h⟩ := hat k hlt
      have hbW := hst.bel
      have hbk : b < w.heap.size := World.block_lt_of_cell? w _ h.c0
      have k0 := (hbW.cell (p := ⟨b, off + k * 5, none⟩) hbk).trans h.c0
      have k1 := (hbW.cell (p := ⟨b, off + k * 5 + 1, none⟩) hbk).trans h.c1
      have k2 := (hbW.cell (p := ⟨b, off + k * 5 + 2, none⟩) hbk).trans h.c2
      have k3 := (hbW.cell (p := ⟨b, off + k * 5 + 3, none⟩) hbk).trans h.c3
      have k4 := (hbW.cell (p := ⟨b, off + k * 5 + 4, none⟩) hbk).trans h.c4
      have b0 := h.b0
      have b1 := h.b1
      have b4 := h.b4
      have HL := Lib.hid h.sl
      have hle := h.le
      have hcap := h.cap
      have HN := Lib.hid h.nil
      have HST := Lib.hid hst
      clear h hat hbW hst
      have t0 : decide ((k : Int) < (len : Int)) = true := by simp; omega
      by_cases hw0 : who < 0
      · have t1 : decide (who < 0) = true := by simpa using hw0
        go_wp2
        go_roundw
        case rel => exact ⟨k + 1, S, by omega, by go_num, HST.out.kept ((Below.refl _ _).alloc (Nat.le_refl _) _)⟩
        case measure => simp [intOf]; omega
      · have t1 : decide (who < 0) = false := by simpa using hw0
        by_cases hw2 : 2 < who
        · have t2 : decide (2 < who) = true := by simpa using hw2
          go_wp2
          go_roundw
          case rel => exact ⟨k + 1, S, by omega, by go_num, HST.out.kept ((Below.refl _ _).alloc (Nat.le_refl _) _)⟩
          case measure => simp [intOf]; omega
        · have t2 : decide (2 < who) = false := by simpa using hw2
          obtain ⟨c, rfl⟩ : ∃ c : Nat, who = (c : Int) := ⟨who.toNat, by omega⟩
          have hc2 : c ≤ 2 := by omega
          have hP : wr.cell? ⟨w.heap.size + 1 + 1, c, none⟩ = some (.pointer (pP w.heap.size c)) := HST.out.cellP c hc2
          have hR : wr.cell? ⟨w.heap.size + 1 + 1 + 1 + 1 + 1, c, none⟩ = some (.pointer (pR w.heap.size c)) := HST.out.cellR c hc2
          have hc3 : (c : Int) < 3 := by omega
          have z1 : w.heap.size + 1 + 1 < wr.heap.size := by have := HST.out.size; omega
          have z2 : w.heap.size + 1 + 1 + 1 + 1 + 1 < wr.heap.size := by have := HST.out.size; omega
          have HB := Lib.hid (heap_alloc_new wr (.cells #[.int .i64 c, .int .i64 kind, .slice ad l.length dc, .int .u64 (U64 x), .int .i64 long] 52))
          have HS1 := Lib.hid (HST.out.kept ((Below.refl _ _).alloc (Nat.le_refl _) (.cells #[.int .i64 c, .int .i64 kind, .slice ad l.length dc, .int .u64 (U64 x), .int .i64 long] 52)))
          have z3 := HST.out.size
          by_cases hk1 : kind = 1
          · subst hk1
            go_wp2_with fail
            refine (lent_any' ad dc l _ (by omega) HN.out (HL.out.kept HS1.out.bel)).mono ?_
            rintro e w1 ⟨g, gc, rfl, hg, hl, hb1⟩
            have hgz : wr.heap.size + 1 ≤ g := by simpa using hg
            have hst1 := HS1.out.kept hb1
            have HB1 := Lib.hid (row_kept HB.out hb1)
            have HL1 := Lib.hid hl
            have HS2 := Lib.hid hst1
            have q2 : w1.cell? ⟨wr.heap.size, 2, none⟩ = some (.slice ad l.length dc) := by rw [cell_of_row _ _ _ _ _ _ HB1.out]; rfl
            have HA := Lib.hid (HL.out.kept hst1.bel)
            have HP1 := Lib.hid (hst1.cellP c hc2)
            clear hg hl hb1 hst1 HB HS1 hP hR k0 k1 k2 k3 k4
            go_wp2_with fail
            refine (rwrite_st HS2.out c hc2 ad dc l (by unfold maxLen; omega) HA.out).mono ?_
            rintro e w2 ⟨rfl, hst2, g2, hg20, hg21, hgr2⟩
            have HB2 := Lib.hid (row_away HB1.out hgr2 (by omega))
            have HL2 := Lib.hid (lent_away HL1.out hgr2 (by omega))
            have HS3 := Lib.hid hst2
            clear hst2 hgr2 HB1 HL1 HS2 q2 HA HP1
            go_wp2_with fail
            refine (write_st HS3.out c hc2 (some ⟨g, 0, none⟩) gc l (by unfold maxLen; omega) HL2.out.sl).mono ?_
            rintro e w3 ⟨rfl, hst3, g3, hg30, hg31, hgr3⟩
            have HB3 := Lib.hid (row_away HB2.out hgr3 (by omega))
            have HL3 := Lib.hid (lent_away HL2.out hgr3 (by omega))
            have HS4 := Lib.hid hst3
            have q2 : w3.cell? ⟨wr.heap.size, 2, none⟩ = some (.slice ad l.length dc) := by rw [cell_of_row _ _ _ _ _ _ HB3.out]; rfl
            have HA := Lib.hid (HL.out.kept hst3.bel)
            clear hst3 hgr3 HB2 HL2 HS3
            obtain ⟨S', hS'⟩ : ∃ S', S' = wSt S c l := ⟨_, rfl⟩
            rw [← hS'] at HS4
            clear hS'
            generalize wCode S c l.length = n
            have e5 : (n != n) = false := by simp
            go_wp2_with (first
              | (go_at_call 13; refine (num_any _ _).mono ?_; rintro e w' ⟨rfl, rfl⟩)
              | (go_at_call 23; refine (kept_any g gc ad dc l _ (by omega) HL3.out HA.out).mono ?_; rintro e w4 ⟨rfl, hb4⟩))
            obtain ⟨cur, hcur, hc5, hcm5, hcs, htk⟩ := HL3.out.kept hb4
            have HS5 := Lib.hid (HS4.out.kept hb4)
            have HC := Lib.hid hcur
            have HK := Lib.hid (show cur.toList.take l.length = vBs l by
              have := congrArg (List.take l.length) htk
              rw [List.take_take, show min l.length (l.length + 5) = l.length by omega] at this
              rw [this, vBs, vBs, ← List.map_take]; simp)
            have HZ := Lib.hid hcs
            clear hcur htk hcs HS4 HL3 HB3 q2 HA hb4
            obtain ⟨wo, rfl⟩ : ∃ wo : World, wo = wr := ⟨_, rfl⟩
            go_loopw [12] (fun i wq => ∃ (j : Nat) (l' : List (BitVec 8)) (cu : Array Value), j ≤ l.length ∧ i = .int .i64 j ∧ l'.length = l.length ∧ wq.heap[g]? = some (.cells cu 5 (0, 0)) ∧ cu.size = gc ∧ cu.toList.take l.length = vBs l' ∧ ST w S' S' wq) (fun i _ => l.length - (intOf i).toNat)
            case atStart => exact ⟨0, l, cur, by omega, rfl, rfl, HC.out, HZ.out, HK.out, HS5.out⟩
            case round =>
              clear HC HZ HK HS5
              obtain ⟨j, l', cu, hj, rfl, hl', hh, hcz, htk, hst⟩ := hrel
              have HL' := Lib.hid hl'
              have HH := Lib.hid hh
              have HZ := Lib.hid hcz
              have HK := Lib.hid htk
              have HT := Lib.hid hst
              clear hl' hcz htk hst
              by_cases hjl : j < l.length
              · have t3 : decide ((j : Int) < (l.length : Int)) = true := by simp; omega
                have hjc : j < cu.size := by rw [HZ.out]; unfold maxLen at hcm5; omega
                obtain ⟨y, hy⟩ : ∃ y, l'[j]? = some y := ⟨_, List.getElem?_eq_getElem (by rw [HL'.out]; exact hjl)⟩
                have q5 : wr.cell? ⟨g, j, none⟩ = some (.int .u8 (U8 y)) := by
                  rw [cell_of_row _ _ _ _ _ _ hh]
                  have e := congrArg (fun l => l[j]?) HK.out
                  simp only [List.getElem?_take, if_pos hjl, vBs, List.getElem?_map, hy, Option.map_some] at e
                  simpa [vB] using e
                have q6 := frozen_of_row _ _ j _ _ hh
                have HK2 := Lib.hid (show (cu.setIfInBounds j (.int .u8 (U8 (BitVec.ofInt 8 (U8 y + 1))))).toList.take l.length = vBs (l'.set j (BitVec.ofInt 8 (U8 y + 1))) by
                  rw [Array.toList_setIfInBounds, List.take_set, HK.out, vBs_set])
                have HT2 := Lib.hid (HT.out.away (grown_set (grown_refl wr (some g)) j (.int .u8 (U8 (BitVec.ofInt 8 (U8 y + 1))))) (fun i hi => by injection hi with hi; omega))
                have HH2 := Lib.hid (heap_setCell_same wr g j cu 5 (.int .u8 (U8 (BitVec.ofInt 8 (U8 y + 1)))) hh)
                have i1 : (j : Int) < (l.length : Int) := by omega
                clear hh hy HH HK HT
                go_wp2
                go_roundw
                case rel => exact ⟨j + 1, _, _, by omega, by go_num, by rw [List.length_set]; exact HL'.out, HH2.out, by rw [Array.size_setIfInBounds]; exact HZ.out, HK2.out, HT2.out⟩
                case measure => simp [intOf]; omega
              · have t3 : decide ((j : Int) < (l.length : Int)) = false := by simp; omega
                clear hh
                go_wp2
                go_roundw
                case rel => exact ⟨k + 1, S', by omega, by go_num, HT.out⟩
                case measure => simp [intOf]; omega
          · have e1 : (kind == 1) = false := beq_eq_false_iff_ne.2 hk1
            by_cases hk2 : kind = 2
            · subst hk2
              go_wp2_with fail
              refine (rput_st HS1.out c hc2 x long).mono ?_
              rintro e w1 ⟨rfl, hst1, g1, hg10, hg11, hgr1⟩
              have HB1 := Lib.hid (row_away HB.out hgr1 (by omega))
              have HS2 := Lib.hid hst1
              have q3 : w1.cell? ⟨wr.heap.size, 3, none⟩ = some (.int .u64 (U64 x)) := by rw [cell_of_row _ _ _ _ _ _ HB1.out]; rfl
              have q4 : w1.cell? ⟨wr.heap.size, 4, none⟩ = some (.int .i64 long) := by rw [cell_of_row _ _ _ _ _ _ HB1.out]; rfl
              clear hst1 hgr1 HB HS1 hP hR k0 k1 k2 k3 k4
              go_wp2_with fail
              refine (put_st HS2.out c hc2 x long).mono ?_
              rintro e w2 ⟨rfl, hst2, g2, hg20, hg21, hgr2⟩
              have HS3 := Lib.hid hst2
              clear hst2 hgr2 HS2 HB1 q3 q4
              obtain ⟨S', hS'⟩ : ∃ S', S' = pSt S c x long := ⟨_, rfl⟩
              rw [← hS'] at HS3
              clear hS'
              generalize pCode S c long = n
              have e5 : (n != n) = false := by simp
              go_wp2_with (go_at_call 13; refine (num_any _ _).mono ?_; rintro e w' ⟨rfl, rfl⟩)
              go_roundw
              case rel => exact ⟨k + 1, S', by omega, by go_num, HS3.out⟩
              case measure => simp [intOf]; omega
            · have e2 : (kind == 2) = false := beq_eq_false_iff_ne.2 hk2
              by_cases hk3 : kind = 3
              · subst hk3
                go_wp2_with fail
                refine (tells_st HS1.out c hc2).mono ?_
                rintro e w1 ⟨rfl, rfl⟩
                go_wp2
                go_roundw
                case rel => exact ⟨k + 1, S, by omega, by go_num, HS1.out⟩
                case measure => simp [intOf]; omega
              · have e3 : (kind == 3) = false := beq_eq_false_iff_ne.2 hk3
                clear hk1 hk2 hk3
                go_wp2
                go_roundw
                case rel => exact ⟨k + 1, S, by omega, by go_num, HST.out.kept ((Below.refl _ _).alloc (Nat.le_refl _) _)⟩
                case measure => simp [intOf]; omega
    · have t0 : decide ((k : Int) < (len : Int)) = false := by simp; omega
      have HST := Lib.hid hst
      clear hst HO
      go_wp2
      refine wp_region_inv 26 (fun W => ST w S S W) (by kernel_rfl) (by kernel_rfl) (fun _ => HST.out.kept ⟨rfl, rfl, rfl, Nat.le_refl _, fun _ _ => rfl⟩) ?_
      simp only [List.take_succ_cons, List.take_zero]
      iterate 26
        apply wpInv_cons
        · rfl
        · intro Wx hw
          have p0 : Wx.cell? ⟨w.heap.size + 1 + 1, 0, none⟩ = some (.pointer (pP w.heap.size 0)) := hw.cellP 0 (by omega)
          have p1 : Wx.cell? ⟨w.heap.size + 1 + 1, 1, none⟩ = some (.pointer (pP w.heap.size 1)) := hw.cellP 1 (by omega)
          have p2 : Wx.cell? ⟨w.heap.size + 1 + 1, 2, none⟩ = some (.pointer (pP w.heap.size 2)) := hw.cellP 2 (by omega)
          have r0 : Wx.cell? ⟨w.heap.size + 1 + 1 + 1 + 1 + 1, 0, none⟩ = some (.pointer (pR w.heap.size 0)) := hw.cellR 0 (by omega)
          have r1 : Wx.cell? ⟨w.heap.size + 1 + 1 + 1 + 1 + 1, 1, none⟩ = some (.pointer (pR w.heap.size 1)) := hw.cellR 1 (by omega)
          have r2 : Wx.cell? ⟨w.heap.size + 1 + 1 + 1 + 1 + 1, 2, none⟩ = some (.pointer (pR w.heap.size 2)) := hw.cellR 2 (by omega)
          go_simp
          first
            | exact ⟨hw, rfl⟩
            | (show Calls _ _ _ _ _; with_reducible exact (tells_st hw 0 (by omega)).mono (fun e w' ⟨he, hw'⟩ => ⟨he, hw' ▸ hw⟩))
            | (show Calls _ _ _ _ _; with_reducible exact (tells_st hw 1 (by omega)).mono (fun e w' ⟨he, hw'⟩ => ⟨he, hw' ▸ hw⟩))
            | (show Calls _ _ _ _ _; with_reducible exact (tells_st hw 2 (by omega)).mono (fun e w' ⟨he, hw'⟩ => ⟨he, hw' ▸ hw⟩))
        simp only [Act.put, List.setIfInBounds_toArray, List.set_cons_zero, List.set_cons_succ]
      refine wpInv_nil fun W hst => ?_
      simp only [List.drop_succ_cons, List.drop_zero]
      have hb := hst.bel
      clear hst HST
      go_wp2
      go_ret
      exact ⟨rfl, hb⟩
theorem own : ownKnob Try.prog.godebug = none := by kernel_rfl
theorem laidOut : laidOutB Try.prog = true := by kernel_rfl
set_option maxRecDepth 100000 in
theorem lifted (os : Os) (started : os.Started) (H : Type) (enc : TypeId × Value → H) :
    ReturnsInHanded {} Try.checked os 7 .any (Rows.sumStreamsSpec.pre6 enc Try.prog Try.f7 Rows.sumStreamsRow.domain false) (Rows.sumStreamsSpec.post enc Try.prog Try.f7 false true false false) := by
  refine returnsInHanded_of_change_sized (C := Try.checked) own started (by kernel_rfl) Try.func7
    (ChangeSpec.witness6 (enc := enc) (C := Try.checked) false ⟨#[], #[.slice none 0 0], []⟩ 8 (by kernel_rfl) (by kernel_rfl) (by kernel_rfl) (by kernel_rfl)) ?_
  intro W base args ds gs before hval0 hW hcnd hsz0 _
  have hsz : (DataW.weightsEach Try.prog (Try.f7.params.toList ++ Rows.sumStreamsSpec.plain.varTypes Try.prog) (ds ++ gs)).all (· ≤ reachBytes) = true := hsz0
  clear hsz0
  have hval : ∀ (j : Nat) t v, Try.f7.params[j]? = some t → args[j]? = some v → Value.okWide Try.prog W .any base t v := hval0
  have hW' := hW
  obtain ⟨p, q, hA0, hV, rfl, hfz, hnd⟩ := hW
  have hA : DataW.TrodAll enc Try.prog W 0 (fun _ => true) true Try.f7.params.toList args.toList ds p := hA0
  rw [Try.params7] at hA hval hsz
  obtain ⟨v0, vs0, d0, ds0, p0, q0, hargs, rfl, rfl, h0, r0⟩ := trodAll_cons hA
  obtain ⟨rfl, rfl, rfl⟩ := trodAll_nil r0
  obtain rfl : args = #[v0] := by cases args; simp_all
  obtain ⟨rfl, rfl⟩ := trodVars_none hV
  obtain ⟨a0, len0, cap0, rfl⟩ := okWide_slice Try.underlying44 (hval 0 44 v0 rfl rfl)
  have k0 := h0
  have lt0 : ∀ x ∈ p0, x.block < W.heap.size := by obtain ⟨m, hm⟩ := k0; exact DataW.trod_lt m _ _ _ hm
  obtain ⟨n0, m0, s0⟩ := open_ops h0 hsz (j := 0) rfl rfl
  clear hA0 hval0
  refine (walk a0 len0 cap0 W n0 m0 s0).mono fun e W' ⟨he, bel⟩ => ?_
  subst he
  exact ⟨_, rfl, _, _, _, [], _, [], hW', trodAll_mk1 (shut_bool Try.underlying4 _), (trodAll_cons_mk (Below.trod laidOut (by kernel_rfl) (of_decide_eq_true (by kernel_rfl)) k0 bel lt0) trodAll_mk0), rfl, bel.frame _, fun h => by cases h⟩
theorem over : Rows.sumStreamsRow.holds Try.pinned (OpenSpec.ofChange Rows.sumStreamsSpec) :=
  OpenClaim.holds_of_wide 7 Try.f7 rfl rfl rfl rfl rfl rfl rfl ⟨rfl, rfl, rfl, rfl, rfl⟩ rfl rfl rfl rfl rfl (by kernel_rfl) Try.func7 (by kernel_rfl)
    (of_decide_eq_true (by kernel_rfl)) (by unfold Func.isWrapper; first | (rw [if_pos (by decide +kernel)]; kernel_rfl) | (rw [if_neg (by decide +kernel)]; exact ⟨rfl, rfl⟩))
    (fun os started H enc _ => lifted os started H enc)
theorem proved : Rows.SumStreamsSaid := over
#print axioms proved
end Go.Proofs.Ytdphcmmpkacmfaa.lawSumStreams
