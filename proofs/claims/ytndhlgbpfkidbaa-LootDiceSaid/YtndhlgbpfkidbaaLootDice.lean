/-
  Proved: LootDice answers true for every script of two dice. No condition.
-/
import Derived.Test.YtndhlgbpfkidbaaOa
import Derived.Deep.Slices
import Derived.Test.YtndhlgbpfkidbaaOpen
import Derived.Deep.DeepCutAuto
import Derived.Deep.CutBlock
import Derived.Deep.RegionHeld3
namespace Go.Proofs.Ytndhlgbpfkidbaa.lawLootDice
open Go.ChangeShapes Go.WideShapes Go.ChangeAt Go.RowKit Go.K Go.Dice
set_option linter.unusedVariables false
set_option linter.unusedSimpArgs false
set_option maxRecDepth 100000 in
set_option maxHeartbeats 1000000 in
theorem walk (seed stream : BitVec 64) (a : Option Addr) (len cap : Nat) (w : World) (hlc : len ≤ cap) (hcm : cap ≤ maxLen)
    (hops : 0 < len → ∃ b off, a = some ⟨b, off, none⟩ ∧ ∀ i, i < len → ∃ kind sec n M K, OpAt w b (off + i * 5) kind sec n M K) :
    Calls Try.prog 3 #[.int .u64 (U64 seed), .int .u64 (U64 stream), .slice a len cap] w fun e w' => e = .returned (.bool true) ∧ Below w.heap.size w w' := by
  have HO := Lib.hid hops
  clear hops
  unfold maxLen at hcm
  have ho := or1_x stream
  go_enter Try.func3, Try.ntmps3
  go_wp2_with fail
  refine (new_any _ _ _).mono ?_
  rintro e w1 ⟨rfl, hb1, hg1⟩
  have hz1 := lt_row hg1
  have HB1 := Lib.hid hb1
  have HG1 := Lib.hid hg1
  clear hb1 hg1
  go_wp2_with fail
  refine (at_any _ _ _).mono ?_
  rintro e w2 ⟨rfl, rfl⟩
  go_wp2_with fail
  refine (rnew_any _ _ _).mono ?_
  rintro e w3 ⟨rfl, hb3⟩
  unfold dAgg
  have hz3 := hb3.size
  have hz4 : w1.heap.size + 1 < w3.heap.size := by simp at hz3; omega
  have HB3 := Lib.hid hb3
  clear hb3 hz3
  go_wp2
  obtain ⟨p, hp⟩ : ∃ p, p = w1.heap.size + 1 := ⟨_, rfl⟩
  obtain ⟨m, hm⟩ : ∃ m, m = w3.heap.size := ⟨_, rfl⟩
  refine wp_world (fun W => DI w (w1.heap.size + 1) w3.heap.size (two w.heap.size w1.heap.size) (two (newS seed stream) seed) (two (seedA stream) (stream ||| 1#64)) (two (newS seed stream) seed) (two (seedA stream) (stream ||| 1#64)) W) ?_ ?_
  · have hbW : Below w.heap.size w w3 := ((HB1.out.alloc HB1.out.size _).alloc (by have := HB1.out.size; simp; omega) _).trans (HB3.out.mono (by have := HB1.out.size; simp; omega))
    refine ⟨hbW.alloc hbW.size _, alloc_old (row_kept (alloc_at (by simp)) HB3.out), alloc_at rfl, fun c hc => ?_, fun c hc => ?_, by omega, by omega, fun c hc => ?_, by omega, ?_, fun c hc => ?_, fun c hc => ?_⟩
    · have : c = 0 ∨ c = 1 := by omega
      rcases this with rfl | rfl
      · exact alloc_old (row_kept (alloc_old (alloc_old HG1.out)) HB3.out)
      · exact alloc_old (row_kept (alloc_old (alloc_at rfl)) HB3.out)
    · have : c = 0 ∨ c = 1 := by omega
      rcases this with rfl | rfl
      · exact odd_seed _
      · exact odd_or _
    all_goals
      first
        | (have : c = 0 ∨ c = 1 := by omega
           rcases this with rfl | rfl <;> simp only [two] <;> omega)
        | (simp only [two]; omega)
  intro W hst
  rw [← hp, ← hm] at hst ⊢
  have HS := Lib.hid hst
  clear hst HB1 HG1 HB3 ho hp hm hz4 hz1
  go_loopw [9] (fun i wr => ∃ (k : Nat) (g : Nat → Nat) (S A : Nat → BitVec 64), k ≤ len ∧ i = .int .i64 k ∧ DI w p m g S A S A wr) (fun i _ => len - (intOf i).toNat)
  case atStart => exact ⟨0, _, _, _, by omega, rfl, HS.out⟩
  case round =>
    clear HS
    obtain ⟨k, g, S, A, hk, rfl, hst⟩ := hrel
    by_cases hlt : k < len
    · obtain ⟨b, off, rfl, hat⟩ := HO.out (by omega)
      obtain ⟨kind, sec, n, M, K, h⟩ := hat k hlt
      have hbW := hst.bel
      have hbk : b < w.heap.size := World.block_lt_of_cell? w _ h.c0
      have k0 := (hbW.cell (p := ⟨b, off + k * 5, none⟩) hbk).trans h.c0
      have k1 := (hbW.cell (p := ⟨b, off + k * 5 + 1, none⟩) hbk).trans h.c1
      have k2 := (hbW.cell (p := ⟨b, off + k * 5 + 2, none⟩) hbk).trans h.c2
      have k3 := (hbW.cell (p := ⟨b, off + k * 5 + 3, none⟩) hbk).trans h.c3
      have k4 := (hbW.cell (p := ⟨b, off + k * 5 + 4, none⟩) hbk).trans h.c4
      have b0 := h.b0
      have HST := Lib.hid hst
      clear h hat hbW hst
      have t0 : decide ((k : Int) < (len : Int)) = true := by simp; omega
      have HP := Lib.hid HST.out.hp
      have zp := lt_row HST.out.hp
      have zm := lt_row HST.out.hm
      have z0 := lt_row (HST.out.hg 0 (by omega))
      have z1 := lt_row (HST.out.hg 1 (by omega))
      go_upto_if 48 with fail
      go_cut [11] (fun s wc => ∃ c : Nat, c < 2 ∧ s = .int .i64 (c : Int) ∧ DI w p m g S A S A wc ∧ wc.heap[wr.heap.size]? = some (.cells #[.int .i64 kind, .bool sec, .int .u32 (U32 n), .int .u64 (U64 M), .int .u64 (U64 K)] 33))
      case first =>
        cases sec
        · go_wp2_with fail
          go_meet
          exact ⟨0, by omega, rfl, HST.out.kept ((Below.refl _ _).alloc (Nat.le_refl _) _), alloc_at rfl⟩
        · go_wp2_with fail
          go_meet
          exact ⟨1, by omega, rfl, HST.out.kept ((Below.refl _ _).alloc (Nat.le_refl _) _), alloc_at rfl⟩
      case rest =>
        obtain ⟨c, hc, rfl, hst, hbx⟩ := hcut
        have hwc : wr.heap.size < wc.heap.size := lt_row hbx
        obtain ⟨bx, ebx⟩ : ∃ bx, bx = wr.heap.size := ⟨_, rfl⟩
        rw [← ebx] at hbx hwc zp zm z0 z1 ⊢
        clear ebx k0 k1 k2 k3 k4 HST HP
        have HST := Lib.hid hst
        have HBX := Lib.hid hbx
        have pc := hst.cp c hc
        have x0 : wc.cell? ⟨bx, 0, none⟩ = some (.int .i64 kind) := by rw [cell_of_row _ _ _ _ _ _ hbx]; rfl
        clear hst hbx
        have hci : (c : Int) < 2 := by omega
        go_upto_block 2 with fail
        go_cut [12] (fun _ W' => ∃ (g' : Nat → Nat) (S' A' : Nat → BitVec 64), DI w p m g' S' A' S' A' W')
        case first =>
          by_cases e1 : kind = 1
          · subst e1
            have ms := HST.out.cs c hc
            have ma := HST.out.ca c hc
            have f0 := frozen_of_row _ _ (c * 2) _ _ HST.out.hm
            have f1 := frozen_of_row _ _ (c * 2 + 1) _ _ HST.out.hm
            go_wp2_with fail
            refine (rword_any _ _ _).mono ?_
            rintro e w4 ⟨rfl, hb4⟩
            have hst4 := HST.out.kept hb4
            have HS4 := Lib.hid hst4
            have zm4 := lt_row hst4.hm
            have zp4 := lt_row hst4.hp
            have hpm := hst4.pm
            have hmp := Ne.symm hst4.pm
            have pc4 := hst4.cp c hc
            have ms4 := hst4.cs c hc
            have ma4 := hst4.ca c hc
            have f04 := frozen_of_row _ _ (c * 2) _ _ hst4.hm
            have f14 := frozen_of_row _ _ (c * 2 + 1) _ _ hst4.hm
            have HO4 := Lib.hid (hst4.odd c hc)
            clear hst4 hb4 ms ma f0 f1 pc x0
            unfold dAgg
            go_wp2_with fail
            have HX := Lib.hid ((HS4.out.setM c hc (dstep (A c) (S c)) (A c) HO4.out).kept ((Below.refl _ _).alloc (Nat.le_refl _) (.cells (dRow (dstep (A c) (S c)) (A c)) 28)))
            refine (word_any (g c) (S c) (A c) _ (HX.out.hg c hc)).mono ?_
            rintro e w5 ⟨rfl, hgr, hg⟩
            have HX2 := Lib.hid (HX.out.setG c hc hgr hg)
            have e5 : (U32 (dword (S c)) != U32 (dword (S c))) = false := by simp
            clear hgr hg HX HS4 HO4
            go_wp2_with fail
            go_meet
            exact ⟨_, _, _, HX2.out⟩
          · have t1 : (kind == 1) = false := beq_eq_false_iff_ne.2 e1
            by_cases e2 : kind = 2
            · subst e2
              have x2 : wc.cell? ⟨bx, 2, none⟩ = some (.int .u32 (U32 n)) := by rw [cell_of_row _ _ _ _ _ _ HBX.out]; rfl
              have ms := HST.out.cs c hc
              have ma := HST.out.ca c hc
              obtain ⟨v, s', hv⟩ : ∃ (v : BitVec 32) (s' : BitVec 64), (∀ W, Calls Try.prog 15 #[.agg #[.int .u64 (U64 (S c)), .int .u64 (U64 (A c))], .int .u32 (U32 n)] W fun e w' => e = .returned (.tuple #[.int .u32 (U32 v), .agg #[.int .u64 (U64 s'), .int .u64 (U64 (A c))]]) ∧ Below W.heap.size W w') ∧
                  (∀ q W, W.heap[q]? = some (.cells (dRow (S c) (A c)) 85) → Calls Try.prog 16 #[.pointer (some ⟨q, 0, none⟩), .int .u32 (U32 n)] W fun e w' => e = .returned (.int .u32 (U32 v)) ∧ W.grownBy w' (some q) ∧ w'.heap[q]? = some (.cells (dRow s' (A c)) 85)) :=
                below_both (S c) (A c) n (HST.out.odd c hc)
              have nm := World.new_ne wc ⟨m, c * 2, none⟩ ms
              have nx := World.new_ne wc ⟨bx, 2, none⟩ x2
              have HA := Lib.hid (show ∀ X W5 : World, Below X.heap.size X W5 → X.heap = (wc.alloc (.cells #[.int .u64 0, .int .u64 0] 28)).heap → W5.cell? ⟨wc.heap.size, 0, none⟩ = some (.int .u64 0) ∧ W5.cell? ⟨wc.heap.size, 1, none⟩ = some (.int .u64 0) ∧ W5.frozen? ⟨wc.heap.size, 0, none⟩ = false ∧ W5.frozen? ⟨wc.heap.size, 1, none⟩ = false by
                intro X W5 hb hX
                have hr : X.heap[wc.heap.size]? = some (.cells #[.int .u64 0, .int .u64 0] 28) := by rw [hX]; exact alloc_at rfl
                have hr5 := row_kept hr hb
                exact ⟨by rw [cell_of_row _ _ _ _ _ _ hr5]; rfl, by rw [cell_of_row _ _ _ _ _ _ hr5]; rfl, frozen_of_row _ _ 0 _ _ hr5, frozen_of_row _ _ 1 _ _ hr5⟩)
              have HV1 := Lib.hid hv.1
              have HV2 := Lib.hid hv.2
              clear hv
              go_wp2
              go_cut [14, 15] (fun s14 s15 W' => ∃ q, s14 = .int .u32 (U32 v) ∧ s15 = .pointer (some ⟨q, 0, none⟩) ∧ DI w p m g S A S A W' ∧ W'.heap[bx]? = some (.cells #[.int .i64 2, .bool sec, .int .u32 (U32 n), .int .u64 (U64 M), .int .u64 (U64 K)] 33) ∧ W'.heap[q]? = some (.cells (dRow s' (A c)) 28) ∧ q ≠ m)
              case first =>
                go_region_held3 (fun V => V.cell? ⟨m, c * 2, none⟩ = some (.int .u64 (U64 (S c))) ∧ V.cell? ⟨m, c * 2 + 1, none⟩ = some (.int .u64 (U64 (A c))) ∧ V.cell? ⟨bx, 2, none⟩ = some (.int .u32 (U32 n))) (go_keep)
                  (first
                    | (go_at_call 15; (with_reducible refine (HV1.out (World.drew (World.alloc wc _))).mono ?_); rintro e w5 ⟨rfl, hb⟩; obtain ⟨qa, qb, qc, qd⟩ := HA.out _ _ hb rfl; have ms5 := below_cell hb (a := ⟨m, c * 2, none⟩) (v := .int .u64 (U64 (S c))) (by go_keep); have ma5 := below_cell hb (a := ⟨m, c * 2 + 1, none⟩) (v := .int .u64 (U64 (A c))) (by go_keep); have x25 := below_cell hb (a := ⟨bx, 2, none⟩) (v := .int .u32 (U32 n)) (by go_keep))
                    | (go_at_call 15; (with_reducible refine (HV1.out (World.drew wc)).mono ?_); rintro e w5 ⟨rfl, hb⟩; have ms5 := below_cell hb (a := ⟨m, c * 2, none⟩) (v := .int .u64 (U64 (S c))) (by go_keep); have ma5 := below_cell hb (a := ⟨m, c * 2 + 1, none⟩) (v := .int .u64 (U64 (A c))) (by go_keep); have x25 := below_cell hb (a := ⟨bx, 2, none⟩) (v := .int .u32 (U32 n)) (by go_keep)))
                all_goals
                  go_wp2_with fail
                  go_meet
                  first
                    | (obtain ⟨y1, y2, y3, y4⟩ := DI.wayA HST.out HBX.out (by assumption) s' (A c)
                       exact ⟨_, rfl, rfl, y1, y2, y3, y4⟩)
                    | (obtain ⟨y1, y2, y3, y4⟩ := DI.wayB HST.out HBX.out (by assumption) s' (A c)
                       exact ⟨_, rfl, rfl, y1, y2, y3, y4⟩)
              case rest =>
                obtain ⟨q, rfl, rfl, hst, hbx, hq, hqm⟩ := hcut
                have q0 : wc.cell? ⟨q, 0, none⟩ = some (.int .u64 (U64 s')) := by rw [cell_of_row _ _ _ _ _ _ hq]; rfl
                have q1 : wc.cell? ⟨q, 1, none⟩ = some (.int .u64 (U64 (A c))) := by rw [cell_of_row _ _ _ _ _ _ hq]; rfl
                clear HA nm nx x2 ms ma pc x0 HST HBX HV1
                have ms := hst.cs c hc
                have ma := hst.ca c hc
                have f0 := frozen_of_row _ _ (c * 2) _ _ hst.hm
                have f1 := frozen_of_row _ _ (c * 2 + 1) _ _ hst.hm
                have HX := Lib.hid (hst.setM c hc s' (A c) (hst.odd c hc))
                have HBX2 := Lib.hid (show ((wc.setCell ⟨m, c * 2, none⟩ (.int .u64 (U64 s'))).setCell ⟨m, c * 2 + 1, none⟩ (.int .u64 (U64 (A c)))).heap[bx]? = some (.cells #[.int .i64 2, .bool sec, .int .u32 (U32 n), .int .u64 (U64 M), .int .u64 (U64 K)] 33) by
                  rw [heap_setCell_other _ _ _ _ (by show bx ≠ m; omega), heap_setCell_other _ _ _ _ (by show bx ≠ m; omega)]; exact hbx)
                clear hst hbx hq
                go_wp2
                refine wp_world (fun W' => DI w p m g (upd S c s') (upd A c (A c)) S A W' ∧ W'.heap[bx]? = some (.cells #[.int .i64 2, .bool sec, .int .u32 (U32 n), .int .u64 (U64 M), .int .u64 (U64 K)] 33)) ⟨HX.out, HBX2.out⟩ ?_
                clear ms ma f0 f1 q0 q1 HX HBX2
                intro W' ⟨hw1, hw2⟩
                have HX := Lib.hid hw1
                have pc := hw1.cp c hc
                have hgb : g c ≠ bx := by rcases lt2 hc with rfl | rfl <;> omega
                have x2 : W'.cell? ⟨bx, 2, none⟩ = some (.int .u32 (U32 n)) := by rw [cell_of_row _ _ _ _ _ _ hw2]; rfl
                have e5 : (U32 v != U32 v) = false := by simp
                clear hw1 hw2
                go_region_held3 (fun V => V.cell? ⟨p, c, none⟩ = some (.pointer (some ⟨g c, 0, none⟩)) ∧ V.cell? ⟨bx, 2, none⟩ = some (.int .u32 (U32 n))) (go_keep)
                  ((go_at_call 16; refine (HV2.out _ _ (by exact HX.out.hg c hc)).mono ?_; rintro e w5 ⟨rfl, hgr, hg⟩; have pc5 := grown_cell hgr pc (HX.out.gp c hc); have x25 := grown_cell hgr x2 (by omega)))
                all_goals
                  have HX2 := Lib.hid (DI.setG (W := W'.drew) (HX.out.drew 1) c hc hgr hg)
                  clear hgr hg HX
                  go_wp2_with fail
                  go_meet
                  exact ⟨_, _, _, HX2.out⟩
            · have t2 : (kind == 2) = false := beq_eq_false_iff_ne.2 e2
              by_cases e3 : kind = 3
              · subst e3
                have RS := Lib.hid (show ∀ W, Calls Try.prog 17 #[.agg #[.int .u64 (U64 (S c)), .int .u64 (U64 (A c))], .int .u64 (U64 M)] W fun e w' => e = .returned (.agg #[.int .u64 (U64 (diter (A c) (S c) M.toNat)), .int .u64 (U64 (A c))]) ∧ Below W.heap.size W w' from
                  fun W => rskip_any (S c) (A c) M W)
                go_wp2
                refine wp_region_inv 8 (fun W => DI w p m g S A S A W ∧ W.heap[bx]? = some (.cells #[.int .i64 3, .bool sec, .int .u32 (U32 n), .int .u64 (U64 M), .int .u64 (U64 K)] 33)) (by kernel_rfl) (by kernel_rfl)
                  (fun _ => ⟨HST.out.kept ⟨rfl, rfl, rfl, Nat.le_refl _, fun _ _ => rfl⟩, HBX.out⟩) ?_
                simp only [List.take_succ_cons, List.take_zero]
                iterate 8
                  apply wpInv_cons
                  · rfl
                  · intro Wx hw
                    have ms := hw.1.cs c hc
                    have ma := hw.1.ca c hc
                    have x3 : Wx.cell? ⟨bx, 3, none⟩ = some (.int .u64 (U64 M)) := by rw [cell_of_row _ _ _ _ _ _ hw.2]; rfl
                    go_simp
                    first
                      | exact ⟨hw, rfl⟩
                      | (show Calls _ _ _ _ _; with_reducible exact (RS.out _).mono (fun e w' ⟨he, hb⟩ => ⟨he, hw.1.kept hb, row_kept hw.2 hb⟩))
                  simp only [Act.put, List.setIfInBounds_toArray, List.set_cons_zero, List.set_cons_succ]
                refine wpInv_nil fun W hw => ?_
                simp only [List.drop_succ_cons, List.drop_zero]
                have ms := hw.1.cs c hc
                have ma := hw.1.ca c hc
                have f0 := frozen_of_row _ _ (c * 2) _ _ hw.1.hm
                have f1 := frozen_of_row _ _ (c * 2 + 1) _ _ hw.1.hm
                have HX := Lib.hid (hw.1.setM c hc (diter (A c) (S c) M.toNat) (A c) (hw.1.odd c hc))
                have HBX2 := Lib.hid (show ((W.setCell ⟨m, c * 2, none⟩ (.int .u64 (U64 (diter (A c) (S c) M.toNat)))).setCell ⟨m, c * 2 + 1, none⟩ (.int .u64 (U64 (A c)))).heap[bx]? = some (.cells #[.int .i64 3, .bool sec, .int .u32 (U32 n), .int .u64 (U64 M), .int .u64 (U64 K)] 33) by
                  rw [heap_setCell_other _ _ _ _ (by show bx ≠ m; omega), heap_setCell_other _ _ _ _ (by show bx ≠ m; omega)]; exact hw.2)
                clear hw RS pc x0
                go_wp2
                refine wp_world (fun W' => DI w p m g (upd S c (diter (A c) (S c) M.toNat)) (upd A c (A c)) S A W' ∧ W'.heap[bx]? = some (.cells #[.int .i64 3, .bool sec, .int .u32 (U32 n), .int .u64 (U64 M), .int .u64 (U64 K)] 33)) ⟨HX.out, HBX2.out⟩ ?_
                clear ms ma f0 f1 HX HBX2
                intro W' ⟨hw1, hw2⟩
                have HX := Lib.hid hw1
                have pc := hw1.cp c hc
                have hgb : g c ≠ bx := by rcases lt2 hc with rfl | rfl <;> omega
                have x3 : W'.cell? ⟨bx, 3, none⟩ = some (.int .u64 (U64 M)) := by rw [cell_of_row _ _ _ _ _ _ hw2]; rfl
                clear hw1 hw2
                go_region_held3 (fun V => V.cell? ⟨p, c, none⟩ = some (.pointer (some ⟨g c, 0, none⟩)) ∧ V.cell? ⟨bx, 3, none⟩ = some (.int .u64 (U64 M))) (go_keep)
                  ((go_at_call 18; refine (skip_any (g c) (S c) (A c) M _ (by exact HX.out.hg c hc)).mono ?_; rintro e w5 ⟨rfl, hgr, hg⟩; have pc5 := grown_cell hgr pc (HX.out.gp c hc); have x35 := grown_cell hgr x3 (by omega)))
                all_goals
                  have HX2 := Lib.hid (DI.setG (W := W'.drew) (HX.out.drew 1) c hc hgr hg)
                  clear hgr hg HX
                  go_wp2_with fail
                  go_meet
                  exact ⟨_, _, _, HX2.out⟩
              · have t3 : (kind == 3) = false := beq_eq_false_iff_ne.2 e3
                by_cases e4 : kind = 4
                · subst e4
                  have x3 : wc.cell? ⟨bx, 3, none⟩ = some (.int .u64 (U64 M)) := by rw [cell_of_row _ _ _ _ _ _ HBX.out]; rfl
                  have x4 : wc.cell? ⟨bx, 4, none⟩ = some (.int .u64 (U64 K)) := by rw [cell_of_row _ _ _ _ _ _ HBX.out]; rfl
                  have ms := HST.out.cs c hc
                  have ma := HST.out.ca c hc
                  have f0 := frozen_of_row _ _ (c * 2) _ _ HST.out.hm
                  have f1 := frozen_of_row _ _ (c * 2 + 1) _ _ HST.out.hm
                  have hmb : m ≠ bx := by omega
                  have hbm : bx ≠ m := by omega
                  have hpm := HST.out.pm
                  have hmp := Ne.symm HST.out.pm
                  have fp := frozen_of_row _ _ c _ _ HST.out.hp
                  have zpc : p < wc.heap.size := by omega
                  have zmc : m < wc.heap.size := by omega
                  have ho := or1_x K
                  have HX := Lib.hid (HST.out.setM c hc M (K ||| 1#64) (odd_or K))
                  go_wp2_with fail
                  refine (at_any M K _).mono ?_
                  rintro e w5 ⟨rfl, rfl⟩
                  have HX2 := Lib.hid (HX.out.newP c hc (q := wc.heap.size) (s := M) (a := K ||| 1#64) (by simp))
                  go_wp2_with fail
                  go_meet
                  exact ⟨_, _, _, HX2.out⟩
                · have t4 : (kind == 4) = false := beq_eq_false_iff_ne.2 e4
                  by_cases e5 : kind = 5
                  · subst e5
                    have x3 : wc.cell? ⟨bx, 3, none⟩ = some (.int .u64 (U64 M)) := by rw [cell_of_row _ _ _ _ _ _ HBX.out]; rfl
                    have x4 : wc.cell? ⟨bx, 4, none⟩ = some (.int .u64 (U64 K)) := by rw [cell_of_row _ _ _ _ _ _ HBX.out]; rfl
                    go_wp2_with fail
                    refine (rnew_any M K _).mono ?_
                    rintro e w5 ⟨rfl, hb5⟩
                    unfold dAgg
                    have hst5 := HST.out.kept hb5
                    have hbx5 := row_kept HBX.out hb5
                    have ms := hst5.cs c hc
                    have ma := hst5.ca c hc
                    have f0 := frozen_of_row _ _ (c * 2) _ _ hst5.hm
                    have f1 := frozen_of_row _ _ (c * 2 + 1) _ _ hst5.hm
                    have x35 : w5.cell? ⟨bx, 3, none⟩ = some (.int .u64 (U64 M)) := by rw [cell_of_row _ _ _ _ _ _ hbx5]; rfl
                    have x45 : w5.cell? ⟨bx, 4, none⟩ = some (.int .u64 (U64 K)) := by rw [cell_of_row _ _ _ _ _ _ hbx5]; rfl
                    have hmb : m ≠ bx := by omega
                    have hbm : bx ≠ m := by omega
                    have HX := Lib.hid (hst5.setM c hc (newS M K) (seedA K) (odd_seed K))
                    clear hst5 hbx5 hb5 x3 x4 pc x0 HST HBX
                    go_wp2_with fail
                    refine (new_any M K _).mono ?_
                    rintro e w6 ⟨rfl, hb6, hg6⟩
                    have hX6 := HX.out.kept hb6
                    have pc6 := hX6.cp c hc
                    have fp6 := frozen_of_row _ _ c _ _ hX6.hp
                    have HX6 := Lib.hid (hX6.setP c hc HX.out.bel.size (Nat.ne_of_gt (lt_row HX.out.hp)) (Nat.ne_of_gt (lt_row HX.out.hm)) (Nat.ne_of_gt (lt_row (HX.out.hg 0 (by omega)))) (Nat.ne_of_gt (lt_row (HX.out.hg 1 (by omega)))) hg6)
                    simp only [World.size_setCell] at HX6
                    clear hX6 hb6 hg6 ms ma f0 f1 x35 x45 HX
                    go_wp2_with fail
                    go_meet
                    exact ⟨_, _, _, HX6.out⟩
                  · have t5 : (kind == 5) = false := beq_eq_false_iff_ne.2 e5
                    clear e1 e2 e3 e4 e5
                    go_wp2_with fail
                    go_meet
                    exact ⟨_, _, _, HST.out⟩
        case rest =>
          obtain ⟨g', S', A', hst⟩ := hcut
          have HS' := Lib.hid hst
          clear hst HST HBX pc x0
          go_wp2
          obtain ⟨wo, rfl⟩ : ∃ wo : World, wo = wr := ⟨_, rfl⟩
          go_loopw [16] (fun i wq => ∃ j : Nat, j ≤ 2 ∧ i = .int .i64 j ∧ DI w p m g' S' A' S' A' wq) (fun i _ => 2 - (intOf i).toNat)
          case atStart => exact ⟨0, by omega, rfl, HS'.out⟩
          case round =>
            clear HS'
            obtain ⟨j, hj, rfl, hst⟩ := hrel
            have HS' := Lib.hid hst
            by_cases hj2 : j < 2
            · have t3 : decide ((j : Int) < 2) = true := by simp; omega
              have hji : (j : Int) < 2 := by omega
              have pc := hst.cp j hj2
              have ms := hst.cs j hj2
              have ma := hst.ca j hj2
              have HG := Lib.hid (hst.hg j hj2)
              have e6 : (U64 (S' j) != U64 (S' j)) = false := by simp
              have e7 : (U64 (A' j) != U64 (A' j)) = false := by simp
              clear hst
              go_wp2_with fail
              refine (state_any (g' j) (S' j) (A' j) _ HG.out).mono ?_
              rintro e w4 ⟨rfl, nd, rfl⟩
              go_wp2_with fail
              go_roundw
              case rel => exact ⟨j + 1, by omega, by go_num, HS'.out.drew nd⟩
              case measure => simp [intOf]; omega
            · have t3 : decide ((j : Int) < 2) = false := by simp; omega
              clear hst
              go_wp2_with fail
              go_roundw
              case rel => exact ⟨k + 1, g', S', A', by omega, by go_num, HS'.out⟩
              case measure => simp [intOf]; omega
    · have t0 : decide ((k : Int) < (len : Int)) = false := by simp; omega
      go_wp2_with (first
        | (go_at_call 18; refine (skip_nil 3#64 _).mono ?_; rintro e w4 ⟨rfl, rfl⟩)
        | (go_at_call 19; refine (state_nil _).mono ?_; rintro e w4 ⟨rfl, rfl⟩)
        | (go_at_call 14; refine (word_nil _).mono ?_; rintro e w4 ⟨rfl, rfl⟩)
        | (go_at_call 16; refine (below_nil 9#32 _).mono ?_; rintro e w4 ⟨rfl, rfl⟩))
      go_ret
      exact ⟨rfl, hst.bel⟩
theorem own : ownKnob Try.prog.godebug = none := by kernel_rfl
theorem laidOut : laidOutB Try.prog = true := by kernel_rfl
set_option maxRecDepth 100000 in
theorem lifted (os : Os) (started : os.Started) (H : Type) (enc : TypeId × Value → H) :
    ReturnsInHanded {} Try.checked os 3 .any (Rows.lootDiceSpec.pre6 enc Try.prog Try.f3 Rows.lootDiceRow.domain false) (Rows.lootDiceSpec.post enc Try.prog Try.f3 false true false false) := by
  refine returnsInHanded_of_change_sized (C := Try.checked) own started (by kernel_rfl) Try.func3
    (ChangeSpec.witness6 (enc := enc) (C := Try.checked) false ⟨#[], #[.int .u64 0, .int .u64 0, .slice none 0 0], []⟩ 8 (by kernel_rfl) (by kernel_rfl) (by kernel_rfl) (by kernel_rfl)) ?_
  intro W base args ds gs before hval0 hW hcnd hsz0 _
  have hsz : (DataW.weightsEach Try.prog (Try.f3.params.toList ++ Rows.lootDiceSpec.plain.varTypes Try.prog) (ds ++ gs)).all (· ≤ reachBytes) = true := hsz0
  clear hsz0
  have hval : ∀ (j : Nat) t v, Try.f3.params[j]? = some t → args[j]? = some v → Value.okWide Try.prog W .any base t v := hval0
  have hW' := hW
  obtain ⟨p, q, hA0, hV, rfl, hfz, hnd⟩ := hW
  have hA : DataW.TrodAll enc Try.prog W 0 (fun _ => true) true Try.f3.params.toList args.toList ds p := hA0
  rw [Try.params3] at hA hval hsz
  obtain ⟨v0, vs0, d0, ds0, p0, q0, hargs, rfl, rfl, h0, r0⟩ := trodAll_cons hA
  obtain ⟨v1, vs1, d1, ds1, p1, q1, rfl, rfl, rfl, h1, r1⟩ := trodAll_cons r0
  obtain ⟨v2, vs2, d2, ds2, p2, q2, rfl, rfl, rfl, h2, r2⟩ := trodAll_cons r1
  obtain ⟨rfl, rfl, rfl⟩ := trodAll_nil r2
  obtain rfl : args = #[v0, v1, v2] := by cases args; simp_all
  obtain ⟨rfl, rfl⟩ := trodVars_none hV
  obtain ⟨a0, rfl, rfl, rfl, w0⟩ := open_int Try.underlying22 (hval 0 22 v0 rfl rfl) h0
  obtain ⟨x0, rfl⟩ := u64_of_wf w0
  obtain ⟨a1, rfl, rfl, rfl, w1⟩ := open_int Try.underlying22 (hval 1 22 v1 rfl rfl) h1
  obtain ⟨x1, rfl⟩ := u64_of_wf w1
  obtain ⟨a2, len2, cap2, rfl⟩ := okWide_slice Try.underlying23 (hval 2 23 v2 rfl rfl)
  have k2 := h2
  have lt2 : ∀ x ∈ p2, x.block < W.heap.size := by obtain ⟨m, hm⟩ := k2; exact DataW.trod_lt m _ _ _ hm
  obtain ⟨n2, m2, s2⟩ := open_ops h2
  clear hA0 hval0
  refine (walk x0 x1 a2 len2 cap2 W n2 m2 s2).mono fun e W' ⟨he, bel⟩ => ?_
  subst he
  exact ⟨_, rfl, _, _, _, [], _, [], hW', trodAll_mk1 (shut_bool Try.underlying4 _), (trodAll_cons_mk (shut_int Try.underlying22 w0) (trodAll_cons_mk (shut_int Try.underlying22 w1) (trodAll_cons_mk (Below.trod laidOut (by kernel_rfl) (of_decide_eq_true (by kernel_rfl)) k2 bel lt2) trodAll_mk0))), rfl, bel.frame _, fun h => by cases h⟩
theorem over : Rows.lootDiceRow.holds Try.pinned (OpenSpec.ofChange Rows.lootDiceSpec) :=
  OpenClaim.holds_of_wide 3 Try.f3 rfl rfl rfl rfl rfl rfl rfl ⟨rfl, rfl, rfl, rfl, rfl⟩ rfl rfl rfl rfl rfl (by kernel_rfl) Try.func3 (by kernel_rfl)
    (of_decide_eq_true (by kernel_rfl)) (by unfold Func.isWrapper; first | (rw [if_pos (by decide +kernel)]; kernel_rfl) | (rw [if_neg (by decide +kernel)]; exact ⟨rfl, rfl⟩))
    (fun os started H enc _ => lifted os started H enc)
theorem proved : Rows.LootDiceSaid := over
#print axioms proved
end Go.Proofs.Ytndhlgbpfkidbaa.lawLootDice
