/-
  Proved: LootFair answers true for every state, step and number. No condition.
-/
import Derived.Test.YtndhlgbpfkidbaaTd
import Derived.Test.YtndhlgbpfkidbaaGen
import Derived.Test.YtndhlgbpfkidbaaOa
import Derived.Deep.Slices
namespace Go.Proofs.Ytndhlgbpfkidbaa.lawLootFair
open Go.ChangeShapes Go.WideShapes Go.ChangeAt Go.RowKit Go.K Go.Dice
set_option linter.unusedVariables false
set_option linter.unusedSimpArgs false
theorem u32_of_wf {n : Int} (h : (Lit.int .u32 n).wf = true) : ∃ (x : Nat) (_ : x < 4294967296), n = (x : Int) := by
  obtain ⟨b, rfl⟩ := u32_of_wf' h
  exact ⟨b.toNat, b.isLt, rfl⟩
theorem first_at {a s : BitVec 64} {n : BitVec 32} {k i : Nat} (hk : firstHit a s n k) (hi : hit a s n i) (hno : ∀ j, j < i → ¬ hit a s n j) : i = k := by
  rcases Nat.lt_trichotomy i k with h | h | h
  · exact absurd hi (hk.2 i h)
  · exact h
  · exact absurd hk.1 (hno k h)
set_option maxRecDepth 100000 in
set_option maxHeartbeats 4000000 in
theorem walk (s t : BitVec 64) (x : Nat) (w : World) (hx : x < 4294967296) : Calls Try.prog 6 #[.int .u64 (U64 s), .int .u64 (U64 t), .int .u32 (x : Int)] w fun r w' => r = .returned (.bool true) ∧ Below w.heap.size w w' := by
  obtain ⟨n, hn⟩ : ∃ n : BitVec 32, (x : Int) = U32 n := ⟨BitVec.ofNat 32 x, by unfold U32; rw [BitVec.toNat_ofNat, Nat.mod_eq_of_lt (by omega)]⟩
  rw [hn]
  clear hn hx
  obtain ⟨a, ha⟩ : ∃ a, a = t ||| 1#64 := ⟨_, rfl⟩
  have HOD := Lib.hid (show a.getLsbD 0 = true from by rw [ha]; exact odd_or t)
  have HAT := Lib.hid (fun W => show Calls Try.prog 11 #[.int .u64 (U64 s), .int .u64 (U64 t)] W fun e w' => e = .returned (.pointer (some ⟨W.heap.size, 0, none⟩)) ∧ w' = W.alloc (.cells (dRow s a) 85) from by rw [ha]; exact at_any s t W)
  clear ha
  go_enter Try.func6, Try.ntmps6
  go_wp2_with fail
  refine (known_any w).mono ?_
  rintro r0 w1 ⟨rfl, hb1⟩
  have HB1 := Lib.hid hb1
  clear hb1
  go_wp2_with fail
  refine (HAT.out w1).mono ?_
  rintro r0 w2 ⟨rfl, rfl⟩
  go_wp2_with fail
  refine (HAT.out _).mono ?_
  rintro r0 w2 ⟨rfl, hw2⟩
  rw [World.size_alloc]
  obtain ⟨g, hg⟩ : ∃ g, g = w1.heap.size := ⟨_, rfl⟩
  rw [← hg]
  have HR := Lib.hid (show w2.heap[g]? = some (.cells (dRow s a) 85) ∧ w2.heap[g + 1]? = some (.cells (dRow s a) 85) ∧ Below w.heap.size w w2 ∧ w.heap.size ≤ g from
    ⟨by rw [hw2]; exact alloc_old (alloc_at hg), by rw [hw2]; exact alloc_at (by simp [hg]), by rw [hw2]; exact (HB1.out.alloc HB1.out.size _).alloc (Nat.le_trans HB1.out.size (by simp)) _, by rw [hg]; exact HB1.out.size⟩)
  clear hw2 hg HB1 HAT
  by_cases h0 : n = 0#32
  · subst h0
    rw [show U32 0#32 = 0 from rfl]
    go_wp2_with fail
    refine (below_zero g w2).mono ?_
    rintro r0 w3 ⟨rfl, rfl⟩
    go_wp2_with fail
    refine (state_any g s a w2 HR.out.1).mono ?_
    rintro r0 w3 ⟨rfl, m, rfl⟩
    have HF := Lib.hid (HR.out.2.2.1.trans ((Qt.drewN w2 m).below _))
    have q0 : (U64 s == U64 s) = true := by simp
    go_wp2
    go_ret
    exact ⟨rfl, HF.out⟩
  · obtain ⟨k, hk⟩ := first_some a s n HOD.out h0
    have HK := Lib.hid hk
    have KB := Lib.hid (below_any g s a n k h0 hk w2 HR.out.1)
    have hn0 : 0 < n.toNat := by
      rcases Nat.eq_zero_or_pos n.toNat with h' | h'
      · exact absurd (BitVec.eq_of_toNat_eq (by rw [h']; rfl)) h0
      · exact h'
    have HN0 := Lib.hid hn0
    clear hk
    go_wp2_with fail
    refine KB.out.mono ?_
    rintro r0 w3 ⟨rfl, hg3, hr3⟩
    have HB3 := Lib.hid (show Below w.heap.size w w3 from HR.out.2.2.1.grown hg3 HR.out.2.2.1.size (fun k hk => by injection hk with e; have := HR.out.2.2.2; omega))
    have HR3 := Lib.hid (show w3.heap[g + 1]? = some (.cells (dRow s a) 85) from row_past HR.out.2.1 hg3 (fun e => by injection e with e; omega))
    have KS := Lib.hid (state_any g _ a w3 hr3)
    clear hg3 hr3 KB
    go_wp2_with fail
    refine KS.out.mono ?_
    rintro r0 w4 ⟨rfl, m, rfl⟩
    have HI := Lib.hid (show Below w.heap.size w (w3.drewN m) ∧ (w3.drewN m).heap[g + 1]? = some (.cells (dRow s a) 85) from ⟨HB3.out.trans ((Qt.drewN w3 m).below _), HR3.out⟩)
    clear KS HB3 HR3
    have t0 : (U32 n == 0) = false := by rw [beq_eq_false_iff_ne]; unfold U32; omega
    have e0 : IntKind.u64.wrap (U32 n) = U32 n := by rw [IntKind.wrap_u64]; unfold U32; have := n.isLt; omega
    have HE := Lib.hid (rleast_x n hn0)
    have tz : ¬ U32 n = 0 := by unfold U32; omega
    have HL := Lib.hid (show ∀ i, hit a s n i ↔ least n ≤ (dword (diter a s i)).toNat from fun i => Iff.rfl)
    clear hn0 h0
    go_wp2
    clear t0 e0
    go_loopw [13, 14, 15, 16] (fun x13 x14 x15 x16 V => ∃ i : Nat, i ≤ 10000 ∧ x13 = .int .i64 i ∧ Below w.heap.size w V ∧ V.heap[g + 1]? = some (.cells (dRow (diter a s i) a) 85) ∧ ∀ j, j < i → ¬ hit a s n j) (fun x13 _ _ _ _ => 10000 - (intOf x13).toNat)
    case atStart => exact ⟨0, by omega, rfl, HI.out.1, HI.out.2, fun j hj => absurd hj (Nat.not_lt_zero j)⟩
    case round =>
      clear HI
      obtain ⟨i, hi, rfl, hb, hr, hno⟩ := hrel
      have HB := Lib.hid hb
      have HNO := Lib.hid hno
      have KW := Lib.hid (word_any (g + 1) _ a wr hr)
      clear hb hr hno
      by_cases hlt : i < 10000
      · have t0 : decide ((i : Int) < 10000) = true := by simp; omega
        have HLT := Lib.hid hlt
        clear hlt hi
        go_wp2_with fail
        refine KW.out.mono ?_
        rintro r0 w5 ⟨rfl, hg5, hr5⟩
        have HB5 := Lib.hid (show Below w.heap.size w w5 from HB.out.grown hg5 HB.out.size (fun k hk => by injection hk with e; have := HR.out.2.2.2; omega))
        have HR5 := Lib.hid (show w5.heap[g + 1]? = some (.cells (dRow (diter a s (i + 1)) a) 85) from hr5)
        clear hg5 hr5 KW t0
        by_cases hh : hit a s n i
        · have t1 : decide (U32 (dword (diter a s i)) ≥ (4294967296 : Int) % U32 n % 4294967296) = true := decide_eq_true (by rw [HE.out]; have := (HL.out i).1 hh; unfold U32; omega)
          have hik := first_at HK.out hh HNO.out
          have KS := Lib.hid (state_any (g + 1) _ a w5 HR5.out)
          subst hik
          clear hh
          go_wp2_with fail
          refine KS.out.mono ?_
          rintro r0 w6 ⟨rfl, m6, rfl⟩
          have HF := Lib.hid (HB5.out.trans ((Qt.drewN w5 m6).below _))
          have q1 := umod_x (dword (diter a s i)) n
          have q2 : decide (U32 (dword (diter a s i) % n) < U32 n) = true := decide_eq_true (by have := HN0.out; unfold U32; rw [BitVec.toNat_umod]; have := Nat.mod_lt (dword (diter a s i)).toNat HN0.out; omega)
          have q3 : (U32 (dword (diter a s i) % n) == U32 (dword (diter a s i) % n)) = true := by simp
          have q4 : (U64 (diter a s (i + 1)) == U64 (diter a s (i + 1))) = true := by simp
          go_wp2
          go_ret
          exact ⟨rfl, HF.out⟩
        · have t1 : decide (U32 (dword (diter a s i)) ≥ (4294967296 : Int) % U32 n % 4294967296) = false := decide_eq_false (by rw [HE.out]; have h : ¬ (least n ≤ (dword (diter a s i)).toNat) := fun h => hh ((HL.out i).2 h); unfold U32; omega)
          have HS := Lib.hid (show ∀ j, j < i + 1 → ¬ hit a s n j from fun j hj => by
            by_cases e : j = i
            · subst e; exact hh
            · exact HNO.out j (by omega))
          clear hh
          have b9 : (i : Int) < 10000 := by have := HLT.out; omega
          go_wp2
          go_roundw
          case rel => exact ⟨i + 1, HLT.out, by go_num, HB5.out, HR5.out, HS.out⟩
          case measure => have := HLT.out; simp [intOf]; omega
      · have t0 : decide ((i : Int) < 10000) = false := by simp; omega
        clear hlt hi KW
        go_wp2
        go_ret
        exact ⟨rfl, HB.out⟩
theorem own : ownKnob Try.prog.godebug = none := by kernel_rfl
theorem laidOut : laidOutB Try.prog = true := by kernel_rfl
set_option maxRecDepth 100000 in
theorem lifted (os : Os) (started : os.Started) (H : Type) (enc : TypeId × Value → H) :
    ReturnsInHanded {} Try.checked os 6 .any (Rows.lootFairSpec.pre6 enc Try.prog Try.f6 Rows.lootFairRow.domain false) (Rows.lootFairSpec.post enc Try.prog Try.f6 false true false false) := by
  refine returnsInHanded_of_change_sized (C := Try.checked) own started (by kernel_rfl) Try.func6
    (ChangeSpec.witness6 (enc := enc) (C := Try.checked) false ⟨#[], #[.int .u64 0, .int .u64 0, .int .u32 0], []⟩ 8 (by kernel_rfl) (by kernel_rfl) (by kernel_rfl) (by kernel_rfl)) ?_
  intro W base args ds gs before hval0 hW hcnd hsz0 _
  have hsz : (DataW.weightsEach Try.prog (Try.f6.params.toList ++ Rows.lootFairSpec.plain.varTypes Try.prog) (ds ++ gs)).all (· ≤ reachBytes) = true := hsz0
  clear hsz0
  have hval : ∀ (j : Nat) t v, Try.f6.params[j]? = some t → args[j]? = some v → Value.okWide Try.prog W .any base t v := hval0
  have hW' := hW
  obtain ⟨p, q, hA0, hV, rfl, hfz, hnd⟩ := hW
  have hA : DataW.TrodAll enc Try.prog W 0 (fun _ => true) true Try.f6.params.toList args.toList ds p := hA0
  rw [Try.params6] at hA hval hsz
  obtain ⟨v0, vs0, d0, ds0, p0, q0, hargs, rfl, rfl, h0, r0⟩ := trodAll_cons hA
  obtain ⟨v1, vs1, d1, ds1, p1, q1, rfl, rfl, rfl, h1, r1⟩ := trodAll_cons r0
  obtain ⟨v2, vs2, d2, ds2, p2, q2, rfl, rfl, rfl, h2, r2⟩ := trodAll_cons r1
  obtain ⟨rfl, rfl, rfl⟩ := trodAll_nil r2
  obtain rfl : args = #[v0, v1, v2] := by cases args; simp_all
  obtain ⟨rfl, rfl⟩ := trodVars_none hV
  obtain ⟨a0, rfl, rfl, rfl, w0⟩ := open_int Try.underlying22 (hval 0 22 v0 rfl rfl) h0
  obtain ⟨x0, rfl⟩ := u64_of_wf w0
  obtain ⟨a1, rfl, rfl, rfl, w1⟩ := open_int Try.underlying22 (hval 1 22 v1 rfl rfl) h1
  obtain ⟨x1, rfl⟩ := u64_of_wf w1
  obtain ⟨a2, rfl, rfl, rfl, w2⟩ := open_int Try.underlying31 (hval 2 31 v2 rfl rfl) h2
  obtain ⟨x2, y2, rfl⟩ := u32_of_wf w2
  clear hA0 hval0
  refine (walk x0 x1 x2 W y2).mono fun e W' ⟨he, bel⟩ => ?_
  subst he
  exact ⟨_, rfl, _, _, _, [], _, [], hW', trodAll_mk1 (shut_bool Try.underlying4 _), (trodAll_cons_mk (shut_int Try.underlying22 w0) (trodAll_cons_mk (shut_int Try.underlying22 w1) (trodAll_cons_mk (shut_int Try.underlying31 w2) trodAll_mk0))), rfl, bel.frame _, fun h => by cases h⟩
theorem over : Rows.lootFairRow.holds Try.pinned (OpenSpec.ofChange Rows.lootFairSpec) :=
  OpenClaim.holds_of_wide 6 Try.f6 rfl rfl rfl rfl rfl rfl rfl ⟨rfl, rfl, rfl, rfl, rfl⟩ rfl rfl rfl rfl rfl (by kernel_rfl) Try.func6 (by kernel_rfl)
    (of_decide_eq_true (by kernel_rfl)) (by unfold Func.isWrapper; first | (rw [if_pos (by decide +kernel)]; kernel_rfl) | (rw [if_neg (by decide +kernel)]; exact ⟨rfl, rfl⟩))
    (fun os started H enc _ => lifted os started H enc)
theorem proved : Rows.LootFairSaid := over
#print axioms proved
end Go.Proofs.Ytndhlgbpfkidbaa.lawLootFair
