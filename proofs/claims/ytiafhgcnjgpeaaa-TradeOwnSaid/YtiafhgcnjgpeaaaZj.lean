/-
  Layer 20: markEntries: rows in blocks apart are written over, and gone on with: they show what was written.
-/
import Derived.Test.YtiafhgcnjgpeaaaZi
namespace Go.Proofs.Ytiafhgcnjgpeaaa
open Go.RowKit Go.K
set_option linter.unusedVariables false
set_option linter.unusedSimpArgs false

set_option maxRecDepth 100000 in
set_option maxHeartbeats 4000000 in
theorem markE_any (S : Nat → Prop) (ls : List (Option Addr × Nat)) (ga : Nat) (w : World) (hm : 0 < ls.length ∧ ls.length ≤ 8) (hn : ∀ r ∈ ls, r.2 ≤ 2513169434843 - 100)
    (hga : w.heap[ga]? = some (.cells (ls.map fun r => Value.slice r.1 r.2 r.2).toArray 23 (0, 0))) (hr : ∀ i (h : i < ls.length), MR S 44 5 w ls[i] i 0)
    (hap : ∀ i j (h : i < ls.length) (h' : j < ls.length), i ≠ j → ∀ g, ls[j].1 = some ⟨g, 0, none⟩ → ls[i].1 ≠ some ⟨g, 0, none⟩) :
    Calls Try.prog 38 #[.slice (some ⟨ga, 0, none⟩) ls.length ls.length] w fun r w' => r = .returned (.bool true) ∧ Only S w w' := by
  have HGA := Lib.hid hga
  have HR := Lib.hid hr
  have HAP := Lib.hid hap
  have HNM := Lib.hid hn
  have HM := Lib.hid hm.1
  have hm8 := hm.2
  clear hga hr hap hn hm
  go_enter Try.func38, Try.ntmps38
  go_wp2
  -- the marks
  go_loopw [3, 4] (fun i ii wr => ∃ j : Nat, j ≤ ls.length ∧ i = .int .i64 j ∧ Only S w wr ∧ wr.heap[ga]? = some (.cells (ls.map fun r => Value.slice r.1 r.2 r.2).toArray 23 (0, 0)) ∧
      ∀ i' (h : i' < ls.length), MR S 44 5 wr ls[i'] i' (if i' < j then ls[i'].2 else 0)) (fun i _ _ => ls.length - (intOf i).toNat)
  case atStart => exact ⟨0, by omega, rfl, Only.refl _ _, HGA.out, fun i' h => by simpa using HR.out i' h⟩
  case round =>
    clear HR HGA
    obtain ⟨j, hj, rfl, ho, hga, hr⟩ := hrel
    have HO := Lib.hid ho
    have HGA := Lib.hid hga
    have HR := Lib.hid hr
    clear ho hga hr
    by_cases hlt : j < ls.length
    · have t0 : decide ((j : Int) < (ls.length : Int)) = true := by simp; omega
      have i1 : (j : Int) < (ls.length : Int) := by omega
      have z0 : ∀ W : World, W.heap[ga]? = some (.cells (ls.map fun r => Value.slice r.1 r.2 r.2).toArray 23 (0, 0)) → W.cell? ⟨ga, j, none⟩ = some (.slice ls[j].1 ls[j].2 ls[j].2) := fun W h => by
        rw [cell_of_row _ _ _ _ _ _ h]; simp [List.getElem?_eq_getElem hlt]
      have HN := Lib.hid (HNM.out ls[j] (List.getElem_mem hlt))
      have HRJ := Lib.hid (show MR S 44 5 wr ls[j] j 0 by have h := HR.out j hlt; rwa [if_neg (Nat.lt_irrefl j)] at h)
      have HRO := Lib.hid (fun i' (h : i' < ls.length) (hne : i' ≠ j) => HR.out i' h)
      have HAJ := Lib.hid (fun i' (h : i' < ls.length) (hne : i' ≠ j) => HAP.out i' j h hlt hne)
      have HEJ := Lib.hid (show ∀ i' (h : i' < ls.length), i' = j → ls[i'] = ls[j] from fun i' h e => by subst e; rfl)
      generalize ls[j] = rj at z0 HN HRJ HAJ HEJ
      obtain ⟨a, n⟩ := rj
      simp only at z0 HN HAJ
      have hn := HN.out
      clear HR
      have Z0 := Lib.hid z0
      have z1 := z0 _ HGA.out
      clear z0
      go_wp2
      go_loopw [4] (fun i wq => ∃ k : Nat, k ≤ n ∧ i = .int .i64 k ∧ Only S w wq ∧ wq.heap[ga]? = some (.cells (ls.map fun r => Value.slice r.1 r.2 r.2).toArray 23 (0, 0)) ∧ MR S 44 5 wq (a, n) j k ∧
          ∀ i' (h : i' < ls.length), i' ≠ j → MR S 44 5 wq ls[i'] i' (if i' < j then ls[i'].2 else 0)) (fun i _ => n - (intOf i).toNat)
      case atStart => exact ⟨0, by omega, rfl, HO.out, HGA.out, HRJ.out, fun i' h hne => HRO.out i' h hne⟩
      case round =>
        clear HO HGA HRJ HRO z1
        obtain ⟨k, hk, rfl, ho, hga, hrj, hro⟩ := hrel
        have HO := Lib.hid ho
        have HGA := Lib.hid hga
        have HRJ := Lib.hid hrj
        have HRO := Lib.hid hro
        clear ho hga hrj hro
        have z1 := Z0.out _ HGA.out
        by_cases hlk : k < n
        · have t1 : decide ((k : Int) < (n : Int)) = true := by simp; omega
          have i2 : (k : Int) < (n : Int) := by omega
          have hnd : ∃ g cur, a = some ⟨g, 0, none⟩ ∧ wr.heap[g]? = some (.cells cur 44 (0, 0)) ∧ n * 5 ≤ cur.size ∧ S g ∧ ∀ q, q < k → cur[q * 5]? = some (.int .i64 (1000 * (j : Int) + (q : Int))) := by
            rcases HRJ.out with ⟨_, h⟩ | h
            · simp only at h; omega
            · exact h
          obtain ⟨g, cur, rfl, hrow, hsz, hSg, hcur⟩ := hnd
          have HRW := Lib.hid hrow
          have HCU := Lib.hid hcur
          clear hrow hcur HRJ
          go_wp2_with ((with_reducible refine at_store_op ?_); refine wpList_store_lit 44 g (k * 5) (segA cur.toList (k * 5) [.int .i64 (1000 * (j : Int) + (k : Int)), .int .i64 0, .int .u64 0, .int .u64 0, .slice none 0 0]) (.agg #[.int .i64 (1000 * (j : Int) + (k : Int)), .int .i64 0, .int .u64 0, .int .u64 0, .slice none 0 0]) HRW.out sz44 (by show k * 5 + 5 ≤ cur.size; omega) rfl rfl ?_ ?_ ?_; exact rfl; exact rfl; intro w3 hp3)
          go_roundw
          case rel =>
            refine ⟨k + 1, by omega, by go_num, HO.out.trans hp3.only (fun n hn => .inl (hn ▸ hSg)), hp3.row HGA.out (rows_ne HGA.out HRW.out (by decide)), .inr ⟨g, _, rfl, hp3.at', ?_, hSg, ?_⟩, fun i' h hne => (HRO.out i' h hne).put hp3 (HAJ.out i' h hne g rfl)⟩
            · rw [segA_size _ _ _ (by simp; omega)]; simpa using hsz
            · intro q hq
              by_cases e : q = k
              · subst e
                exact segA_in _ _ _ (by simp; omega) 0 (by simp)
              · rw [segA_before _ _ _ (by simp; omega) _ (by omega)]
                simpa using HCU.out q (by omega)
          case measure => simp [intOf]; omega
        · have t1 : decide ((k : Int) < (n : Int)) = false := by simp; omega
          go_wp2
          go_roundw
          case rel =>
            refine ⟨j + 1, by omega, by go_num, HO.out, HGA.out, fun i' h => ?_⟩
            by_cases e : i' = j
            · rw [HEJ.out i' h e, e, if_pos (by omega)]
              have : k = n := by omega
              exact this ▸ HRJ.out
            · by_cases e2 : i' < j
              · rw [if_pos (by omega)]; simpa [e2] using HRO.out i' h e
              · rw [if_neg (by omega)]; simpa [e2] using HRO.out i' h e
          case measure => simp [intOf]; omega
    · have t0 : decide ((j : Int) < (ls.length : Int)) = false := by simp; omega
      have HGA2 := HGA
      have HOW := HO
      have HR2 := Lib.hid (fun i' (h : i' < ls.length) => show MR S 44 5 wr ls[i'] i' ls[i'].2 by have := HR.out i' h; rwa [if_pos (by omega)] at this)
      clear HR
      obtain ⟨w2, hw2⟩ : ∃ W, W = wr := ⟨_, rfl⟩
      subst hw2
      -- more
      go_wp2
      go_loopw [5, 6, 7, 8] (fun v' i x7 x8 wr => ∃ (j : Nat) (v : Value) (ms : List Value), v = v' ∧ j ≤ ls.length ∧ i = .int .i64 j ∧ Below w2.heap.size w2 wr ∧ ms.length = j ∧ wr.ownsRow w2.heap.size 23 1 v j ms ∧
          ∀ i' (h : i' < ls.length) u, ms[i']? = some u → MoreR w2.heap.size 44 5 wr ls[i'].2 i' u) (fun _ i _ _ _ => ls.length - (intOf i).toNat)
      case atStart => exact ⟨0, _, [], rfl, by omega, rfl, Below.refl _ _, rfl, World.ownsRow_nil _ _ _ _, fun i' h u hu => by simp at hu⟩
      case round =>
        clear HO HGA
        obtain ⟨j, v, ms, hv, hj, rfl, hb, hlen, ho, hms⟩ := hrel
        subst hv
        have HB := Lib.hid hb
        have HLEN := Lib.hid hlen
        have HO := Lib.hid ho
        have HMS := Lib.hid hms
        have HGA := Lib.hid (row_kept HGA2.out hb)
        clear hb hlen ho hms t0
        obtain ⟨w4, hw4⟩ : ∃ W, W = wr := ⟨_, rfl⟩
        subst hw4
        by_cases hlt : j < ls.length
        · have t0 : decide ((j : Int) < (ls.length : Int)) = true := by simp; omega
          have i1 : (j : Int) < (ls.length : Int) := by omega
          have z1 : w4.cell? ⟨ga, j, none⟩ = some (.slice ls[j].1 ls[j].2 ls[j].2) := by
            rw [cell_of_row _ _ _ _ _ _ HGA.out]; simp [List.getElem?_eq_getElem hlt]
          have HN := Lib.hid (HNM.out ls[j] (List.getElem_mem hlt))
          have HOL := Lib.hid ((HR2.out j hlt).olds (by decide))
          have HEJ := Lib.hid (show ∀ i' (h : i' < ls.length), i' = j → ls[i'] = ls[j] from fun i' h e => by subst e; rfl)
          generalize ls[j] = rj at z1 HN HOL HEJ
          obtain ⟨a, n⟩ := rj
          obtain ⟨olds, hol, hsl, hn0, hmk⟩ := HOL.out
          simp only at z1 HN hol hsl hn0 hmk
          have hn := HN.out
          have HSL := Lib.hid (hsl.kept HB.out)
          have HOLL := Lib.hid hol
          have HN0 := Lib.hid hn0
          have HMK := Lib.hid hmk
          clear hol hsl hn0 hmk HOL
          go_wp2
          go_loopw [7, 8] (fun v' i wq => ∃ (k : Nat) (v7 : Value), v7 = v' ∧ k ≤ 40 ∧ i = .int .i64 k ∧ Below w4.heap.size w4 wq ∧ Lst w4.heap.size 44 5 wq (a, n) j k v7) (fun _ i _ => 40 - (intOf i).toNat)
          case atStart => exact ⟨0, _, rfl, by omega, rfl, Below.refl _ _, .inl ⟨rfl, rfl⟩⟩
          case round =>
            obtain ⟨k, v7, hv7, hk, rfl, hb, hl⟩ := hrel
            subst hv7
            have HB4 := Lib.hid hb
            have HL := Lib.hid hl
            clear hb hl z1
            by_cases hlk : k < 40
            · have t1 : decide ((k : Int) < 40) = true := by simp; omega
              rcases HL.out with ⟨hk0, hv0⟩ | ⟨hk0, xs, hox, hm1, hm2⟩
              · simp only at hv0
                subst hv0
                have HK0 := Lib.hid hk0
                clear hk0
                have HX := Lib.hid (HSL.out.kept (HB4.out.alloc HB4.out.size (.cells #[.int .i64 (500000 + 1000 * (j : Int) + (k : Int)), .int .i64 0, .int .u64 0, .int .u64 0, .slice none 0 0] 44)))
                have h1c : ∀ u ∈ ([.int .i64 (500000 + 1000 * (j : Int) + (k : Int)), .int .i64 0, .int .u64 0, .int .u64 0, .slice none 0 0] : List Value), u.oneCell' = true := by intro u hu; simp only [List.mem_cons, List.not_mem_nil, or_false] at hu; rcases hu with rfl | rfl | rfl | rfl | rfl <;> rfl
                have h63 : n + 1 ≤ maxLen := by unfold maxLen; omega
                have hby : (n + 1) * 56 ≤ 140737488355328 := by omega
                go_wp2_with (at_builtin; refine wpList_append_full rfl _ _ 23 rfl 44 (.agg #[.int .i64 0, .int .i64 0, .int .u64 0, .int .u64 0, .slice none 0 0]) 5 56 Try.underlying23 infoE rfl a n olds (by rfl) HOLL.out HX.out HN0.out ⟨wr.heap.size, 0, none⟩ 1 1 [.int .i64 (500000 + 1000 * (j : Int) + (k : Int)), .int .i64 0, .int .u64 0, .int .u64 0, .slice none 0 0] (by rfl) (by decide) (by rfl) (sl_new _ _ _ _) h1c h63 hby ?h9)
                intro v2 w5 ho2 hb2
                have HO2 := Lib.hid ho2
                have HB5 := Lib.hid (((HB4.out.alloc HB4.out.size (.cells #[.int .i64 (500000 + 1000 * (j : Int) + (k : Int)), .int .i64 0, .int .u64 0, .int .u64 0, .slice none 0 0] 44))).trans (hb2.mono (by have := HB4.out.size; omega)))
                have HSZ := Lib.hid HB4.out.size
                clear ho2 hb2
                go_wp2
                go_roundw
                case rel =>
                  have hk0 := HK0.out
                  subst hk0
                  have hmm := marks_snoc (k := 0) (ys := [.int .i64 (500000 + 1000 * (j : Int) + ((0 : Nat) : Int)), .int .i64 0, .int .u64 0, .int .u64 0, .slice none 0 0]) (by simpa using HOLL.out) rfl (by decide) HMK.out (fun q hq => by omega)
                  exact ⟨1, _, rfl, by omega, by go_num, HB5.out, .inr ⟨by omega, _, owns_base HO2.out (by have := HSZ.out; simp; omega), hmm.1, hmm.2⟩⟩
                case measure => simp [intOf]; omega
              · have HOX := Lib.hid hox
                have HM1 := Lib.hid (marks_snoc (ys := [.int .i64 (500000 + 1000 * (j : Int) + (k : Int)), .int .i64 0, .int .u64 0, .int .u64 0, .slice none 0 0]) hox.1 rfl (by decide) hm1 hm2)
                clear hox hm1 hm2
                have hbs : w4.heap.size ≤ (wr.alloc (.cells #[.int .i64 (500000 + 1000 * (j : Int) + (k : Int)), .int .i64 0, .int .u64 0, .int .u64 0, .slice none 0 0] 44)).heap.size := (HB4.out.alloc HB4.out.size _).size
                have h1c : ∀ u ∈ ([.int .i64 (500000 + 1000 * (j : Int) + (k : Int)), .int .i64 0, .int .u64 0, .int .u64 0, .slice none 0 0] : List Value), u.oneCell' = true := by intro u hu; simp only [List.mem_cons, List.not_mem_nil, or_false] at hu; rcases hu with rfl | rfl | rfl | rfl | rfl <;> rfl
                have h63 : n + k + 1 ≤ maxLen := by unfold maxLen; omega
                have hby : (n + k + 1) * 56 ≤ 140737488355328 := by omega
                go_wp2_with (at_builtin; refine wpList_append_sl_at rfl _ _ 23 rfl w4.heap.size 44 (.agg #[.int .i64 0, .int .i64 0, .int .u64 0, .int .u64 0, .slice none 0 0]) 5 56 Try.underlying23 infoE rfl (by decide) v7 (n + k) xs (by rfl) (HOX.out.alloc _) (some ⟨wr.heap.size, 0, none⟩) 1 1 [.int .i64 (500000 + 1000 * (j : Int) + (k : Int)), .int .i64 0, .int .u64 0, .int .u64 0, .slice none 0 0] (by rfl) (fun h => by cases h) (by rfl) (sl_new _ _ _ _) h1c h63 hby hbs ?a9)
                intro v2 w5 ho2 hg2 hl2
                have HO2 := Lib.hid ho2
                have HB5 := Lib.hid ((HB4.out.alloc HB4.out.size (.cells #[.int .i64 (500000 + 1000 * (j : Int) + (k : Int)), .int .i64 0, .int .u64 0, .int .u64 0, .slice none 0 0] 44)).grown hg2 hbs (fun q hq => (HOX.out.lt q hq).1))
                clear ho2 hg2 hl2
                go_wp2
                go_roundw
                case rel => exact ⟨k + 1, _, rfl, by omega, by go_num, HB5.out, .inr ⟨by omega, _, HO2.out, HM1.out.1, HM1.out.2⟩⟩
                case measure => simp [intOf]; omega
            · have t1 : decide ((k : Int) < 40) = false := by simp; omega
              have hk40 : k = 40 := by omega
              have HF := Lib.hid (show MoreR w4.heap.size 44 5 wr n j v7 by
                rcases HL.out with ⟨hk0, _⟩ | ⟨_, xs, hox, hm1, hm2⟩
                · omega
                · exact ⟨xs, by rw [← hk40]; exact hox, hm1, by rw [← hk40]; exact hm2⟩)
              clear HL hk40
              obtain ⟨xs, hox, hmm⟩ := HF.out
              obtain ⟨g7, c7, cur7, rfl, -⟩ := owns_cases hox (by omega)
              have HOX := Lib.hid hox
              have HMM := Lib.hid hmm
              have HOV := Lib.hid (owns_below (B := 0) HO.out HB4.out)
              clear hox hmm
              have HSZ := Lib.hid HB4.out.size
              have HSZ2 := Lib.hid HB.out.size
              have HBA := Lib.hid ((HB.out.trans (HB4.out.mono HB.out.size)).alloc (Nat.le_trans HB.out.size HB4.out.size) (.cells #[.slice (some ⟨g7, 0, none⟩) (n + 40) c7] 23))
              have h1c : ∀ u ∈ ([.slice (some ⟨g7, 0, none⟩) (n + 40) c7] : List Value), u.oneCell' = true := by intro u hu; rw [List.mem_singleton] at hu; subst hu; rfl
              have h63 : j + 1 ≤ maxLen := by unfold maxLen; omega
              have hby : (j + 1) * 24 ≤ 140737488355328 := by omega
              go_wp2_with (at_builtin; refine wpList_append_sl_at rfl _ _ 66 rfl w2.heap.size 23 (.slice none 0 0) 1 24 Try.underlying66 info23' rfl (by decide) v j ms (by rfl) (HOV.out.alloc _) (some ⟨wr.heap.size, 0, none⟩) 1 1 [.slice (some ⟨g7, 0, none⟩) (n + 40) c7] (by rfl) (fun h => by cases h) (by rfl) (sl_new _ _ _ _) h1c h63 hby HBA.out.size ?b9)
              intro v2 w5 ho2 hg2 hl2
              have HO2 := Lib.hid ho2
              have HB5 := Lib.hid (HBA.out.grown hg2 HBA.out.size (fun q hq => (HOV.out.lt q hq).1))
              have HM5 := Lib.hid (fun i' (h : i' < ls.length) u (hu : (ms ++ [Value.slice (some ⟨g7, 0, none⟩) (n + 40) c7])[i']? = some u) => show MoreR w2.heap.size 44 5 w5 ls[i'].2 i' u by
                have hA : ∀ {u i m}, MoreR w2.heap.size 44 5 wr m i u → MoreR w2.heap.size 44 5 w5 m i u := fun h => (h.below ((Below.refl _ _).alloc (Nat.le_refl _) _)).grown (HOV.out.alloc _) hg2 (by decide)
                have hl := HLEN.out
                by_cases e : i' < ms.length
                · rw [List.getElem?_append_left e] at hu
                  exact hA ((HMS.out i' h u hu).below HB4.out)
                · have e2 : i' < (ms ++ [Value.slice (some ⟨g7, 0, none⟩) (n + 40) c7]).length := (List.getElem?_eq_some_iff.1 hu).1
                  have e3 : i' = j := by simp at e2; omega
                  rw [List.getElem?_append_right (by omega), show i' - ms.length = 0 by omega] at hu
                  have e4 := Option.some.inj hu
                  subst e4
                  rw [HEJ.out i' h e3, e3]
                  exact hA ⟨xs, owns_base HOX.out HSZ2.out, HMM.out⟩)
              clear ho2 hg2 hl2
              go_wp2
              go_roundw
              case rel => exact ⟨j + 1, _, _, rfl, by omega, by go_num, HB5.out, by have := HLEN.out; simp; omega, HO2.out, HM5.out⟩
              case measure => simp [intOf]; omega
        · have t0 : decide ((j : Int) < (ls.length : Int)) = false := by simp; omega
          have hjm : j = ls.length := by omega
          obtain ⟨gm, cm, curm, rfl, -⟩ := owns_cases HO.out (by have := HM.out; omega)
          have HOM := Lib.hid (show w4.ownsRow w2.heap.size 23 1 (.slice (some ⟨gm, 0, none⟩) ls.length cm) ls.length ms by rw [← hjm]; exact HO.out)
          have HLEN := Lib.hid (show ms.length = ls.length by rw [← hjm]; exact HLEN.out)
          clear HO
          have hjl : (Value.slice (some ⟨gm, 0, none⟩) j cm) = .slice (some ⟨gm, 0, none⟩) ls.length cm := by rw [hjm]
          have HJL := Lib.hid hjl
          have HJM := Lib.hid hjm
          clear hjl hjm
          -- the reading
          go_wp2
          go_loopw [9, 10, 11, 12] (fun i x10 x11 x12 wr => ∃ j : Nat, j ≤ ls.length ∧ i = .int .i64 j ∧ w4 = wr) (fun i _ _ _ _ => ls.length - (intOf i).toNat)
          case atStart => exact ⟨0, by omega, rfl, rfl⟩
          case round =>
            obtain ⟨j, hj, rfl, rfl⟩ := hrel
            clear t0
            by_cases hlt : j < ls.length
            · have t0 : decide ((j : Int) < (ls.length : Int)) = true := by simp; omega
              have i1 : (j : Int) < (ls.length : Int) := by omega
              have z1 : w4.cell? ⟨ga, j, none⟩ = some (.slice ls[j].1 ls[j].2 ls[j].2) := by
                rw [cell_of_row _ _ _ _ _ _ HGA.out]; simp [List.getElem?_eq_getElem hlt]
              have hlm : j < ms.length := by have := HLEN.out; omega
              have z2 : w4.cell? ⟨gm, j, none⟩ = some ms[j] := owns_cell HOM.out j (List.getElem?_eq_getElem hlm)
              have HU := Lib.hid (HMS.out j hlt ms[j] (List.getElem?_eq_getElem hlm))
              have HRJ := Lib.hid (HR2.out j hlt)
              have HN := Lib.hid (HNM.out ls[j] (List.getElem_mem hlt))
              generalize ls[j] = rj at z1 HN HRJ HU
              generalize ms[j] = u at z2 HU
              obtain ⟨a, n⟩ := rj
              simp only at z1 HN HU
              have hn := HN.out
              obtain ⟨xs, hox, hm1, hm2⟩ := HU.out
              obtain ⟨gu, cu, curu, rfl, -⟩ := owns_cases hox (by omega)
              have HX1 := Lib.hid (fun q (hq : q < n) => owns_cell hox (q * 5) (hm1 q hq))
              have HX2 := Lib.hid (fun q (hq : q < 40) => owns_cell hox ((n + q) * 5) (hm2 q hq))
              have HX3 := Lib.hid (show ∀ q, q < n → ∃ g, a = some ⟨g, 0, none⟩ ∧ w4.cell? ⟨g, q * 5, none⟩ = some (.int .i64 (1000 * (j : Int) + (q : Int))) from fun q hq => by
                rcases HRJ.out with ⟨_, h⟩ | ⟨g, cur, h1, h2, h3, _, h4⟩
                · simp only at h; omega
                · exact ⟨g, h1, by rw [cell_of_row _ _ _ _ _ _ (row_kept h2 HB.out)]; exact h4 q hq⟩)
              clear HU hox hm1 hm2 HRJ hlm
              go_wp2
              go_loopw [11] (fun i wq => ∃ k : Nat, k ≤ n ∧ i = .int .i64 k ∧ w4 = wq) (fun i _ => n - (intOf i).toNat)
              case atStart => exact ⟨0, by omega, rfl, rfl⟩
              case round =>
                obtain ⟨k, hk, rfl, rfl⟩ := hrel
                by_cases hlk : k < n
                · have t1 : decide ((k : Int) < (n : Int)) = true := by simp; omega
                  have i2 : (k : Int) < (n : Int) := by omega
                  have i3 : (k : Int) < ((n + 40 : Nat) : Int) := by omega
                  have z3 := HX1.out k hlk
                  obtain ⟨g, rfl, z4⟩ := HX3.out k hlk
                  have t2 : ((1000 * (j : Int) + (k : Int)) != (1000 * (j : Int) + (k : Int))) = false := by simp
                  go_wp2
                  go_roundw
                  case rel => exact ⟨k + 1, by omega, by go_num, by trivial⟩
                  case measure => simp [intOf]; omega
                · have t1 : decide ((k : Int) < (n : Int)) = false := by simp; omega
                  go_wp2
                  go_loopw [12] (fun i wq => ∃ k : Nat, k ≤ 40 ∧ i = .int .i64 k ∧ w4 = wq) (fun i _ => 40 - (intOf i).toNat)
                  case atStart => exact ⟨0, by omega, rfl, rfl⟩
                  case round =>
                    clear t1
                    obtain ⟨k, hk, rfl, rfl⟩ := hrel
                    by_cases hlk : k < 40
                    · have t1 : decide ((k : Int) < 40) = true := by simp; omega
                      have i3 : ((n + k : Nat) : Int) < ((n + 40 : Nat) : Int) := by omega
                      have z3 := HX2.out k hlk
                      have t2 : ((500000 + 1000 * (j : Int) + (k : Int)) != (500000 + 1000 * (j : Int) + (k : Int))) = false := by simp
                      go_wp2
                      go_roundw
                      case rel => exact ⟨k + 1, by omega, by go_num, by trivial⟩
                      case measure => simp [intOf]; omega
                    · have t1 : decide ((k : Int) < 40) = false := by simp; omega
                      go_wp2
                      go_roundw
                      case rel => exact ⟨j + 1, by omega, by go_num, by trivial⟩
                      case measure => simp [intOf]; omega
            · have t0 : decide ((j : Int) < (ls.length : Int)) = false := by simp; omega
              go_wp2
              go_ret
              exact ⟨rfl, HOW.out.trans (Only.of_below HB.out) (fun _ h => .inl h)⟩
end Go.Proofs.Ytiafhgcnjgpeaaa
