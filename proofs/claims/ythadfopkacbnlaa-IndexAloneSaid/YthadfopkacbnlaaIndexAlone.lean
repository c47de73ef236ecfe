/-
  A kind's deals are told the same, whatever the others were; of one price, the average is just that.
-/
import Derived.Test.YthadfopkacbnlaaVb
import Derived.Test.YthadfopkacbnlaaYa
namespace Go.Proofs.Ythadfopkacbnlaa.lawIndexAlone
open Go.RowKit Go.K Go.ChangeShapes Go.WideShapes Go.ChangeAt Stab
set_option linter.unusedVariables false
set_option linter.unusedSimpArgs false
attribute [local go_sem] run_store_float run_equalIn_float
theorem ord_self {r : Nat} (h : r < 2139095040) : FloatKind.f32.format.order r r = some .eq := fl.order_eq false false h h rfl
theorem dis2 {W W' : World} {B B' : Nat} {e e' : TypeId} {s s' n n' N : Nat} {v v' u : Value} {ys : List Value} (ho : W.ownsRow B' e' s' u n' ys) (hd : Dis v u) (hg : W.grownBy W' v.ownBlock) (hN : N = W.heap.size)
    (hl : (v'.ownBlock = v.ownBlock ∧ ¬ v.ownBlock = none) ∨ (v'.ownBlock = some N ∧ Below N W W')) : W'.ownsRow B' e' s' u n' ys ∧ Dis v' u :=
  dis_append (B := B') (e := e') (s := s') (n := n') ho hd hg (by subst hN; exact hl)
set_option maxRecDepth 100000 in
set_option maxHeartbeats 8000000 in
theorem walk (a : Option Addr) (c : Nat) (l : List Dl) (price : BitVec 64) (kd kx : Int) (w : World) (hd : DlsOk w a c l) (hr1 : -9223372036854775808 ≤ kd ∧ kd ≤ 9223372036854775807) (hr2 : -9223372036854775808 ≤ kx ∧ kx ≤ 9223372036854775807) :
    Calls Try.prog 6 #[.slice a l.length c, .int .u64 (U64 price), .int .i64 kd, .int .i64 kx] w fun e w' => e = .returned (.bool true) ∧ Below w.heap.size w w' := by
  obtain ⟨p, hp⟩ : ∃ p, p = price.toNat := ⟨_, rfl⟩
  have HPX := Lib.hid (show p < 18446744073709551616 from by rw [hp]; exact price.isLt)
  rw [show U64 price = (p : Int) by rw [hp]; rfl]
  clear hp
  have HD := Lib.hid hd
  clear hr1 hr2 hd
  go_enter Try.func6, Try.ntmps6
  go_wp2_with fail
  refine (known_any w).mono ?_
  rintro r0 w1 ⟨rfl, hb1⟩
  have HB1 := Lib.hid hb1
  clear hb1
  go_wp2_with fail
  obtain ⟨K, hK⟩ : ∃ K : Nat, plc kd 16 = (K : Int) := ⟨(plc kd 16).toNat, by have := plc_lo (x := kd) (n := 16) (by decide); omega⟩
  have HK := Lib.hid (show K < 16 from by have := plc_lo (x := kd) (n := 16) (by decide); omega)
  refine (place_any kd 16 _ (by decide) (by decide)).mono ?_
  rintro r0 w3 ⟨rfl, rfl⟩
  rw [hK]
  clear hK
  obtain ⟨B, hB⟩ : ∃ B, B = w1.heap.size := ⟨_, rfl⟩
  have HBB := Lib.hid hB
  have HBS := Lib.hid (show w.heap.size ≤ B from by rw [hB]; exact HB1.out.size)
  clear hB
  go_wp2
  go_loopw [9, 10, 11] (fun s9 s10 s11 V => ∃ i : Nat, i ≤ l.length ∧ s11 = .int .i64 i ∧ V.ownsRow B 61 3 s9 (mine K (l.take i)).length (dFlat (mine K (l.take i))) ∧ V.ownsRow B 61 3 s10 i (dFlat (flat K p (l.take i))) ∧ Dis s9 s10 ∧ Below w1.heap.size w1 V) (fun _ _ i _ => l.length - (intOf i).toNat)
  case atStart => exact ⟨0, Nat.zero_le _, rfl, World.ownsRow_nil _ _ _ _, World.ownsRow_nil _ _ _ _, (fun b h => by cases h), Below.refl _ _⟩
  case round =>
    obtain ⟨wb, hwb⟩ : ∃ W, W = wr := ⟨_, rfl⟩
    subst hwb
    obtain ⟨i, hi, rfl, ho9, ho10, hdis, hb⟩ := hrel
    have HO9 := Lib.hid ho9
    have HO10 := Lib.hid ho10
    have HDI := Lib.hid hdis
    have HB := Lib.hid hb
    have HBW := Lib.hid (show Below w.heap.size w wb from HB1.out.trans (hb.mono HB1.out.size))
    clear ho9 ho10 hdis hb
    by_cases hlt : i < l.length
    · have t1 : decide ((i : Int) < (l.length : Int)) = true := by simp; omega
      have ii : (i : Int) < (l.length : Int) := by omega
      have ti : IntKind.i64.wrap ((i : Int) + 1) = ((i + 1 : Nat) : Int) := by have := HD.out.mx; rw [IntKind.wrap_i64]; omega
      have HMX := Lib.hid (show l.length * 24 ≤ 140737488355328 from HD.out.mx)
      obtain ⟨b, off, rfl, c0, c1, c2⟩ := deal_at (HD.out.sl.kept HBW.out) i hlt
      obtain ⟨d, hd⟩ : ∃ d, d = l[i] := ⟨_, rfl⟩
      rw [← hd] at c0 c1 c2
      have HCC := Lib.hid (show ∀ V, Below w.heap.size w V → V.cell? ⟨b, off + i * 3, none⟩ = some (.int .i64 d.kind) ∧ V.cell? ⟨b, off + i * 3 + 1, none⟩ = some (.int .u64 (d.price : Int)) ∧ V.cell? ⟨b, off + i * 3 + 2, none⟩ = some (.int .i64 d.tick) from fun V hV => by
        obtain ⟨b', off', e, k0, k1, k2⟩ := deal_at (HD.out.sl.kept hV) i hlt
        cases e
        rw [← hd] at k0 k1 k2
        exact ⟨k0, k1, k2⟩)
      have HM := Lib.hid (show mine K (l.take (i + 1)) = mine K (l.take i) ++ (if d.k = K then [d] else []) from by rw [mine_take K l hlt, hd])
      have HF := Lib.hid (show dFlat (flat K p (l.take (i + 1))) = dFlat (flat K p (l.take i)) ++ [.int .i64 (K : Int), .int .u64 (p : Int), .int .i64 d.tick] from by rw [flat_take K p l hlt, hd, dFlat_append]; rfl)
      have HLM := Lib.hid (show (mine K (l.take i)).length ≤ i from by have := mine_len K (l.take i); rw [List.length_take] at this; omega)
      have HLT := Lib.hid hlt
      have HPL := Lib.hid (show ∀ V, Calls Try.prog 15 #[.int .i64 d.kind, .int .i64 16] V fun r V' => r = .returned (.int .i64 (d.k : Int)) ∧ V = V' from fun V => by rw [← Dl.k_eq]; exact place_any d.kind 16 V (by decide) (by decide))
      clear hd hlt hi
      go_wp2_with fail
      refine (HPL.out _).mono ?_
      rintro r0 w9 ⟨rfl, rfl⟩
      by_cases hkk : d.k = K
      · have e1 : ((d.k : Int) == (K : Int)) = true := by rw [beq_iff_eq]; omega
        have HM2 := Lib.hid (show mine K (l.take (i + 1)) = mine K (l.take i) ++ [d] from by rw [HM.out, if_pos hkk])
        clear hkk
        have h63 : (mine K (l.take i)).length + 1 ≤ maxLen := by have := HLM.out; have := HLT.out; have := HMX.out; unfold maxLen; omega
        have hby : ((mine K (l.take i)).length + 1) * 24 ≤ 140737488355328 := by have := HLM.out; have := HLT.out; have := HMX.out; omega
        have hbs : B ≤ (wb.alloc (.cells #[.int .i64 d.kind, .int .u64 (d.price : Int), .int .i64 d.tick] 61)).heap.size := by have := HB.out.size; have := HBB.out; simp; omega
        go_wp2_with (at_builtin; refine wpList_append_two rfl _ _ 22 rfl B 61 (.agg #[.int .i64 0, .int .u64 0, .int .i64 0]) 3 24 Try.underlying22 info61 (by rfl) (by decide) u9 (mine K (l.take i)).length (dFlat (mine K (l.take i))) (by rfl) (HO9.out.alloc _) ⟨wb.heap.size, 0, none⟩ 1 1 [.int .i64 d.kind, .int .u64 (d.price : Int), .int .i64 d.tick] (by rfl) (by decide) (by rfl) (sl_new wb [.int .i64 d.kind, .int .u64 (d.price : Int), .int .i64 d.tick] 61 (0, 0)) (one_dl d) h63 hby hbs ?a1)
        intro v5 w5 ho5 hg5 hl5
        have hk5 := dis2 (B := B) (e := 61) (s := 3) (n := 0) (HO10.out.alloc _) HDI.out hg5 (by simp) hl5
        have HX9 := Lib.hid (show w5.ownsRow B 61 3 v5 (mine K (l.take (i + 1))).length (dFlat (mine K (l.take (i + 1)))) from by
          rw [HM2.out, List.length_append, dFlat_append]; exact ho5)
        have HX10 := Lib.hid hk5.1
        have HXD := Lib.hid hk5.2
        have HX1 := Lib.hid (show Below w1.heap.size w1 w5 from (HB.out.alloc HB.out.size _).grown hg5 (by have := HB.out.size; simp; omega) (fun j hj => by rw [← HBB.out]; exact (HO9.out.lt j hj).1))
        have HBW5 := Lib.hid (show Below w.heap.size w w5 from HB1.out.trans (HX1.out.mono HB1.out.size))
        clear ho5 hg5 hl5 hk5 HO9 HO10 HDI h63 hby hbs c0 c1 c2 e1 t1
        have h63 : i + 1 ≤ maxLen := by have := HLT.out; have := HMX.out; unfold maxLen; omega
        have hby : (i + 1) * 24 ≤ 140737488355328 := by have := HLT.out; have := HMX.out; omega
        have hbs5 : B ≤ (w5.alloc (.cells #[.int .i64 (K : Int), .int .u64 (p : Int), .int .i64 d.tick] 61)).heap.size := by have := HX1.out.size; have := HBB.out; simp; omega
        obtain ⟨c0, c1, c2⟩ := HCC.out w5 HBW5.out
        go_wp2_with (at_builtin; refine wpList_append_two rfl _ _ 22 rfl B 61 (.agg #[.int .i64 0, .int .u64 0, .int .i64 0]) 3 24 Try.underlying22 info61 (by rfl) (by decide) u10 i (dFlat (flat K p (l.take i))) (by rfl) (HX10.out.alloc _) ⟨w5.heap.size, 0, none⟩ 1 1 [.int .i64 (K : Int), .int .u64 (p : Int), .int .i64 d.tick] (by rfl) (by decide) (by rfl) (sl_new w5 [.int .i64 (K : Int), .int .u64 (p : Int), .int .i64 d.tick] 61 (0, 0)) (one_dl ⟨(K : Int), p, d.tick⟩) h63 hby hbs5 ?a2)
        intro v6 w6 ho6 hg6 hl6
        have hk6 := dis2 (B := B) (e := 61) (s := 3) (n := 0) (HX9.out.alloc _) HXD.out.swap hg6 (by simp) hl6
        have H6 := Lib.hid (show w6.ownsRow B 61 3 v6 (i + 1) (dFlat (flat K p (l.take (i + 1)))) ∧ w6.ownsRow B 61 3 v5 (mine K (l.take (i + 1))).length (dFlat (mine K (l.take (i + 1)))) ∧ Dis v5 v6 ∧ Below w1.heap.size w1 w6 from ⟨by rw [HF.out]; exact ho6, hk6.1, hk6.2.swap, (HX1.out.alloc HX1.out.size _).grown hg6 (by have := HX1.out.size; simp; omega) (fun j hj => by rw [← HBB.out]; exact (HX10.out.lt j hj).1)⟩)
        clear ho6 hg6 hl6 hk6 c0 c1 c2 h63 hby
        go_wp2
        go_roundw
        case rel => exact ⟨i + 1, HLT.out, by go_num, H6.out.2.1, H6.out.1, H6.out.2.2.1, H6.out.2.2.2⟩
        case measure => have := HLT.out; simp [intOf]; omega
      · have e1 : ((d.k : Int) == (K : Int)) = false := by rw [beq_eq_false_iff_ne]; omega
        have HM2 := Lib.hid (show mine K (l.take (i + 1)) = mine K (l.take i) from by rw [HM.out, if_neg hkk, List.append_nil])
        clear hkk
        have HX9 := Lib.hid (show wb.ownsRow B 61 3 u9 (mine K (l.take (i + 1))).length (dFlat (mine K (l.take (i + 1)))) from by rw [HM2.out]; exact HO9.out)
        have HX10 := HO10
        have HXD := HDI
        have HX1 := HB
        have HBW5 := HBW
        have h63 : i + 1 ≤ maxLen := by have := HLT.out; have := HMX.out; unfold maxLen; omega
        have hby : (i + 1) * 24 ≤ 140737488355328 := by have := HLT.out; have := HMX.out; omega
        have hbs5 : B ≤ (wb.alloc (.cells #[.int .i64 (K : Int), .int .u64 (p : Int), .int .i64 d.tick] 61)).heap.size := by have := HX1.out.size; have := HBB.out; simp; omega
        obtain ⟨c0, c1, c2⟩ := HCC.out wb HBW5.out
        go_wp2_with (at_builtin; refine wpList_append_two rfl _ _ 22 rfl B 61 (.agg #[.int .i64 0, .int .u64 0, .int .i64 0]) 3 24 Try.underlying22 info61 (by rfl) (by decide) u10 i (dFlat (flat K p (l.take i))) (by rfl) (HX10.out.alloc _) ⟨wb.heap.size, 0, none⟩ 1 1 [.int .i64 (K : Int), .int .u64 (p : Int), .int .i64 d.tick] (by rfl) (by decide) (by rfl) (sl_new wb [.int .i64 (K : Int), .int .u64 (p : Int), .int .i64 d.tick] 61 (0, 0)) (one_dl ⟨(K : Int), p, d.tick⟩) h63 hby hbs5 ?a3)
        intro v6 w6 ho6 hg6 hl6
        have hk6 := dis2 (B := B) (e := 61) (s := 3) (n := 0) (HX9.out.alloc _) HXD.out.swap hg6 (by simp) hl6
        have H6 := Lib.hid (show w6.ownsRow B 61 3 v6 (i + 1) (dFlat (flat K p (l.take (i + 1)))) ∧ w6.ownsRow B 61 3 u9 (mine K (l.take (i + 1))).length (dFlat (mine K (l.take (i + 1)))) ∧ Dis u9 v6 ∧ Below w1.heap.size w1 w6 from ⟨by rw [HF.out]; exact ho6, hk6.1, hk6.2.swap, (HX1.out.alloc HX1.out.size _).grown hg6 (by have := HX1.out.size; simp; omega) (fun j hj => by rw [← HBB.out]; exact (HX10.out.lt j hj).1)⟩)
        clear ho6 hg6 hl6 hk6 c0 c1 c2 h63 hby
        go_wp2
        go_roundw
        case rel => exact ⟨i + 1, HLT.out, by go_num, H6.out.2.1, H6.out.1, H6.out.2.2.1, H6.out.2.2.2⟩
        case measure => have := HLT.out; simp [intOf]; omega
    · have t1 : decide ((i : Int) < (l.length : Int)) = false := by simp; omega
      obtain rfl : i = l.length := by omega
      rw [List.take_length] at HO9 HO10
      obtain ⟨a9, c9, rfl, hs9⟩ := owns_sl HO9.out
      obtain ⟨a10, c10, rfl, hs10⟩ := owns_sl HO10.out
      have HS9 := Lib.hid hs9
      have HS10 := Lib.hid hs10
      have HPM := Lib.hid (show ∀ d ∈ mine K l, d.price < 18446744073709551616 from fun d hd => HD.out.pr d (List.mem_filter.1 hd).1)
      have HPF := Lib.hid (show ∀ d ∈ flat K p l, d.price < 18446744073709551616 from fun d hd => by
        obtain ⟨e, _, rfl⟩ := List.mem_map.1 hd
        exact HPX.out)
      have HFL := Lib.hid (flat_len K p l)
      have HLN := Lib.hid (show l.length < 281474976710656 ∧ (mine K l).length < 281474976710656 from by have h1 := HD.out.mx; have h2 := mine_len K l; omega)
      have HBL := Lib.hid HBW.out
      clear hs9 hs10 hlt hi
      go_wp2_with fail
      refine (hear_any a c l wb HLN.out.1 HD.out.pr (HD.out.kept HBW.out).sl).mono ?_
      rintro r0 w2 ⟨rfl, hi2, hb2⟩
      obtain ⟨g1, hg1⟩ : ∃ g, g = wb.heap.size := ⟨_, rfl⟩
      rw [← hg1] at hi2 ⊢
      have HI12 := Lib.hid hi2
      have HB2 := Lib.hid (HBW.out.trans (hb2.mono HBW.out.size))
      have HS92 := Lib.hid (HS9.out.kept hb2)
      have HS102 := Lib.hid (HS10.out.kept hb2)
      clear hi2 hb2 hg1
      go_wp2_with fail
      refine (hear_any a9 c9 (mine K l) w2 HLN.out.2 HPM.out HS92.out).mono ?_
      rintro r0 w3 ⟨rfl, hi3, hb3⟩
      obtain ⟨g2, hg2⟩ : ∃ g, g = w2.heap.size := ⟨_, rfl⟩
      rw [← hg2] at hi3 ⊢
      have HI13 := Lib.hid (HI12.out.kept hb3)
      have HI23 := Lib.hid hi3
      have HB3 := Lib.hid (HB2.out.trans (hb3.mono HB2.out.size))
      have HS103 := Lib.hid (HS102.out.kept hb3)
      clear hi3 hb3 hg2
      go_wp2_with fail
      have hh3 := hear_any a10 c10 (flat K p l) w3 (by rw [HFL.out]; exact HLN.out.1) HPF.out HS103.out
      rw [HFL.out] at hh3
      refine hh3.mono ?_
      rintro r0 w4 ⟨rfl, hi4, hb4⟩
      obtain ⟨g3, hg3⟩ : ∃ g, g = w3.heap.size := ⟨_, rfl⟩
      rw [← hg3] at hi4 ⊢
      obtain ⟨L1, hL1⟩ : ∃ L, L = hearL l := ⟨_, rfl⟩
      obtain ⟨L2, hL2⟩ : ∃ L, L = hearL (mine K l) := ⟨_, rfl⟩
      obtain ⟨L3, hL3⟩ : ∃ L, L = hearL (flat K p l) := ⟨_, rfl⟩
      obtain ⟨X, hX⟩ : ∃ X, X = L1 K := ⟨_, rfl⟩
      obtain ⟨Z, hZ⟩ : ∃ Z, Z = L3 K := ⟨_, rfl⟩
      have HX1 := Lib.hid hX
      have HX2 := Lib.hid (show X = L2 K from by rw [hX, hL1, hL2, mine_line])
      have HZ := Lib.hid hZ
      have HGX := Lib.hid (show Good X l.length from by rw [hX, hL1]; exact hearL_good l HD.out.pr K)
      have HZL := Lib.hid (show Z.deals = (l.length : Int) ∧ (l.length ≠ 0 → Z.low = (p : Int) ∧ Z.high = (p : Int) ∧ Z.avg = fuW p ∧ Z.spr = 0) from by
        obtain ⟨z1, z2⟩ := flat_line HK.out p l
        obtain ⟨u, v, hb⟩ := hearL_btw (flat K p l) HPF.out K
        rw [← hL3, ← hZ] at z1 z2 hb
        refine ⟨z1, fun h => ?_⟩
        obtain ⟨e1, e2⟩ := z2 h
        have hu : u = p := by have := hb.lo; omega
        have hv : v = p := by have := hb.hi; omega
        have h3 := hb.avg
        have h4 := hb.spr
        rw [hu, hv] at h3 h4
        rw [Nat.sub_self, fl.N_zero] at h4
        exact ⟨e1, e2, by omega, by omega⟩)
      rw [← hL3] at hi4
      have HI14 := Lib.hid (show Ix w4 g1 L1 from by rw [hL1]; exact HI13.out.kept hb4)
      have HI24 := Lib.hid (show Ix w4 g2 L2 from by rw [hL2]; exact HI23.out.kept hb4)
      have HI34 := Lib.hid hi4
      have HB4 := Lib.hid (HB3.out.trans (hb4.mono HB3.out.size))
      clear hh3 hi4 hb4 hg3 hL1 hL2 hL3 hX hZ
      have HSW : ∃ (q R I : Nat), q < 8 ∧ bits .and .i64 kx 7 = (q : Int) ∧ floatBits .add .f32 (reV X.day q 8) 0 = some R ∧ floatBits .add .f32 (imV X.day q 8) 0 = some I ∧ FloatKind.f32.format.order R R = some .eq ∧ FloatKind.f32.format.order I I = some .eq := by
        obtain ⟨q, hq⟩ : ∃ q, q = (kx % 8).toNat := ⟨_, rfl⟩
        obtain ⟨R, I, I', s1, s2, s3, s4, s5, s6, s7⟩ := fl.swings HGX.out.day (q := q) (q' := (8 - q) % 8) (by omega)
        exact ⟨q, R, I, by omega, by rw [and7i, hq], s1, s3, s5, s6⟩
      obtain ⟨q, R, I, sq, sk, sR, sI, oR, oI⟩ := HSW
      have HSW := Lib.hid (show q < 8 ∧ bits .and .i64 kx 7 = (q : Int) ∧ floatBits .add .f32 (reV X.day q 8) 0 = some R ∧ floatBits .add .f32 (imV X.day q 8) 0 = some I from ⟨sq, sk, sR, sI⟩)
      have HOR := Lib.hid (And.intro (beq_of oR) (beq_of oI))
      clear sq sk sR sI oR oI
      obtain ⟨xd, hxd⟩ : ∃ z, z = X.deals := ⟨_, rfl⟩
      obtain ⟨xa, hxa⟩ : ∃ z, z = X.avg := ⟨_, rfl⟩
      obtain ⟨xs, hxs⟩ : ∃ z, z = X.spr := ⟨_, rfl⟩
      obtain ⟨xl, hxl⟩ : ∃ z, z = X.low := ⟨_, rfl⟩
      obtain ⟨xh, hxh⟩ : ∃ z, z = X.high := ⟨_, rfl⟩
      obtain ⟨D, hD⟩ : ∃ z, z = X.day := ⟨_, rfl⟩
      have HQX := Lib.hid (show X.quote = .agg #[.int .i64 xd, .float .f32 xa, .float .f32 xs, .int .u64 xl, .int .u64 xh] from by rw [hxd, hxa, hxs, hxl, hxh]; rfl)
      have HDX := Lib.hid (show X.dayV = .agg #[.float .f32 (D 0), .float .f32 (D 1), .float .f32 (D 2), .float .f32 (D 3), .float .f32 (D 4), .float .f32 (D 5), .float .f32 (D 6), .float .f32 (D 7)] from by rw [hD]; rfl)
      have HFA := Lib.hid (show Op.floatEq .f32 xa xa = true ∧ Op.floatEq .f32 xs xs = true from by
        have h1 := HGX.out.avg
        have h2 := HGX.out.spr
        rw [← hxa] at h1
        rw [← hxs] at h2
        exact ⟨beq_of (ord_self (by omega)), beq_of (ord_self (by omega))⟩)
      have HED := Lib.hid (eq57 D (fun t => ord_self (by rw [hD]; have := HGX.out.day t; omega)))
      clear hxd hxa hxs hxl hxh hD
      obtain ⟨za, hza⟩ : ∃ z, z = Z.avg := ⟨_, rfl⟩
      obtain ⟨zs, hzs⟩ : ∃ z, z = Z.spr := ⟨_, rfl⟩
      obtain ⟨zl, hzl⟩ : ∃ z, z = Z.low := ⟨_, rfl⟩
      obtain ⟨zh, hzh⟩ : ∃ z, z = Z.high := ⟨_, rfl⟩
      have HQZ := Lib.hid (show Z.quote = .agg #[.int .i64 (l.length : Int), .float .f32 za, .float .f32 zs, .int .u64 zl, .int .u64 zh] from by rw [hza, hzs, hzl, hzh, ← HZL.out.1]; rfl)
      have HZZ := Lib.hid (show l.length ≠ 0 → zl = (p : Int) ∧ zh = (p : Int) ∧ za = fuW p ∧ zs = 0 from by rw [hza, hzs, hzl, hzh]; exact HZL.out.2)
      clear hza hzs hzl hzh
      go_wp2_with fail
      refine (quote_any g1 K L1 w4 HK.out HI14.out).mono ?_
      rintro r0 w5 ⟨rfl, hb5⟩
      have HI15 := Lib.hid (HI14.out.kept hb5)
      have HI25 := Lib.hid (HI24.out.kept hb5)
      have HI35 := Lib.hid (HI34.out.kept hb5)
      have HB5 := Lib.hid (HB4.out.trans (hb5.mono HB4.out.size))
      clear hb5
      rw [← HX1.out, HQX.out]
      go_wp2_with fail
      obtain ⟨ma, hma⟩ : ∃ m, m = w5.heap.size := ⟨_, rfl⟩
      obtain ⟨w6, h6⟩ : ∃ W, W = w5.alloc (.cells #[.int .i64 xd, .float .f32 xa, .float .f32 xs, .int .u64 xl, .int .u64 xh] 32) := ⟨_, rfl⟩
      rw [← h6, ← hma]
      have HI16 := Lib.hid (show Ix w6 g1 L1 from by rw [h6]; exact HI15.out.kept ((Below.refl _ _).alloc (Nat.le_refl _) _))
      have HI26 := Lib.hid (show Ix w6 g2 L2 from by rw [h6]; exact HI25.out.kept ((Below.refl _ _).alloc (Nat.le_refl _) _))
      have HI36 := Lib.hid (show Ix w6 g3 L3 from by rw [h6]; exact HI35.out.kept ((Below.refl _ _).alloc (Nat.le_refl _) _))
      have HB6 := Lib.hid (show Below w.heap.size w w6 from by rw [h6]; exact HB5.out.alloc HB5.out.size _)
      have RA6 := Lib.hid (show w6.heap[ma]? = some (.cells #[.int .i64 xd, .float .f32 xa, .float .f32 xs, .int .u64 xl, .int .u64 xh] 32) from by rw [h6]; exact alloc_at hma)
      clear h6 hma
      refine (quote_any g2 K L2 w6 HK.out HI26.out).mono ?_
      rintro r0 w7 ⟨rfl, hb7⟩
      have HI17 := Lib.hid (HI16.out.kept hb7)
      have HI27 := Lib.hid (HI26.out.kept hb7)
      have HI37 := Lib.hid (HI36.out.kept hb7)
      have RA7 := Lib.hid (row_kept RA6.out hb7)
      have HB7 := Lib.hid (HB6.out.trans (hb7.mono HB6.out.size))
      clear hb7
      rw [← HX2.out, HQX.out]
      go_wp2_with fail
      obtain ⟨mb, hmb⟩ : ∃ m, m = w7.heap.size := ⟨_, rfl⟩
      obtain ⟨w8, h8⟩ : ∃ W, W = w7.alloc (.cells #[.int .i64 xd, .float .f32 xa, .float .f32 xs, .int .u64 xl, .int .u64 xh] 32) := ⟨_, rfl⟩
      rw [← h8, ← hmb]
      have HI18 := Lib.hid (show Ix w8 g1 L1 from by rw [h8]; exact HI17.out.kept ((Below.refl _ _).alloc (Nat.le_refl _) _))
      have HI28 := Lib.hid (show Ix w8 g2 L2 from by rw [h8]; exact HI27.out.kept ((Below.refl _ _).alloc (Nat.le_refl _) _))
      have HI38 := Lib.hid (show Ix w8 g3 L3 from by rw [h8]; exact HI37.out.kept ((Below.refl _ _).alloc (Nat.le_refl _) _))
      have RA8 := Lib.hid (show w8.heap[ma]? = some (.cells #[.int .i64 xd, .float .f32 xa, .float .f32 xs, .int .u64 xl, .int .u64 xh] 32) from by rw [h8]; exact row_kept RA7.out ((Below.refl _ _).alloc (Nat.le_refl _) _))
      have HB8 := Lib.hid (show Below w.heap.size w w8 from by rw [h8]; exact HB7.out.alloc HB7.out.size _)
      have RB8 := Lib.hid (show w8.heap[mb]? = some (.cells #[.int .i64 xd, .float .f32 xa, .float .f32 xs, .int .u64 xl, .int .u64 xh] 32) from by rw [h8]; exact alloc_at hmb)
      clear h8 hmb
      refine (day_any g1 K L1 w8 HK.out HI18.out).mono ?_
      rintro r0 w9 ⟨rfl, hb9⟩
      have HI19 := Lib.hid (HI18.out.kept hb9)
      have HI29 := Lib.hid (HI28.out.kept hb9)
      have HI39 := Lib.hid (HI38.out.kept hb9)
      have RA9 := Lib.hid (row_kept RA8.out hb9)
      have RB9 := Lib.hid (row_kept RB8.out hb9)
      have HB9 := Lib.hid (HB8.out.trans (hb9.mono HB8.out.size))
      clear hb9
      rw [← HX1.out, HDX.out]
      go_wp2_with fail
      obtain ⟨mc, hmc⟩ : ∃ m, m = w9.heap.size := ⟨_, rfl⟩
      obtain ⟨w10, h10⟩ : ∃ W, W = w9.alloc (.cells #[.float .f32 (D 0), .float .f32 (D 1), .float .f32 (D 2), .float .f32 (D 3), .float .f32 (D 4), .float .f32 (D 5), .float .f32 (D 6), .float .f32 (D 7)] 57) := ⟨_, rfl⟩
      rw [← h10, ← hmc]
      have HI110 := Lib.hid (show Ix w10 g1 L1 from by rw [h10]; exact HI19.out.kept ((Below.refl _ _).alloc (Nat.le_refl _) _))
      have HI210 := Lib.hid (show Ix w10 g2 L2 from by rw [h10]; exact HI29.out.kept ((Below.refl _ _).alloc (Nat.le_refl _) _))
      have HI310 := Lib.hid (show Ix w10 g3 L3 from by rw [h10]; exact HI39.out.kept ((Below.refl _ _).alloc (Nat.le_refl _) _))
      have RA10 := Lib.hid (show w10.heap[ma]? = some (.cells #[.int .i64 xd, .float .f32 xa, .float .f32 xs, .int .u64 xl, .int .u64 xh] 32) from by rw [h10]; exact row_kept RA9.out ((Below.refl _ _).alloc (Nat.le_refl _) _))
      have RB10 := Lib.hid (show w10.heap[mb]? = some (.cells #[.int .i64 xd, .float .f32 xa, .float .f32 xs, .int .u64 xl, .int .u64 xh] 32) from by rw [h10]; exact row_kept RB9.out ((Below.refl _ _).alloc (Nat.le_refl _) _))
      have HB10 := Lib.hid (show Below w.heap.size w w10 from by rw [h10]; exact HB9.out.alloc HB9.out.size _)
      have RC10 := Lib.hid (show w10.heap[mc]? = some (.cells #[.float .f32 (D 0), .float .f32 (D 1), .float .f32 (D 2), .float .f32 (D 3), .float .f32 (D 4), .float .f32 (D 5), .float .f32 (D 6), .float .f32 (D 7)] 57) from by rw [h10]; exact alloc_at hmc)
      clear h10 hmc
      refine (day_any g2 K L2 w10 HK.out HI210.out).mono ?_
      rintro r0 w11 ⟨rfl, hb11⟩
      have HI111 := Lib.hid (HI110.out.kept hb11)
      have HI211 := Lib.hid (HI210.out.kept hb11)
      have HI311 := Lib.hid (HI310.out.kept hb11)
      have RA11 := Lib.hid (row_kept RA10.out hb11)
      have RB11 := Lib.hid (row_kept RB10.out hb11)
      have RC11 := Lib.hid (row_kept RC10.out hb11)
      have HB11 := Lib.hid (HB10.out.trans (hb11.mono HB10.out.size))
      clear hb11
      rw [← HX2.out, HDX.out]
      go_wp2_with fail
      obtain ⟨md, hmd⟩ : ∃ m, m = w11.heap.size := ⟨_, rfl⟩
      obtain ⟨w12, h12⟩ : ∃ W, W = w11.alloc (.cells #[.float .f32 (D 0), .float .f32 (D 1), .float .f32 (D 2), .float .f32 (D 3), .float .f32 (D 4), .float .f32 (D 5), .float .f32 (D 6), .float .f32 (D 7)] 57) := ⟨_, rfl⟩
      rw [← h12, ← hmd]
      have HI112 := Lib.hid (show Ix w12 g1 L1 from by rw [h12]; exact HI111.out.kept ((Below.refl _ _).alloc (Nat.le_refl _) _))
      have HI212 := Lib.hid (show Ix w12 g2 L2 from by rw [h12]; exact HI211.out.kept ((Below.refl _ _).alloc (Nat.le_refl _) _))
      have HI312 := Lib.hid (show Ix w12 g3 L3 from by rw [h12]; exact HI311.out.kept ((Below.refl _ _).alloc (Nat.le_refl _) _))
      have RA12 := Lib.hid (show w12.heap[ma]? = some (.cells #[.int .i64 xd, .float .f32 xa, .float .f32 xs, .int .u64 xl, .int .u64 xh] 32) from by rw [h12]; exact row_kept RA11.out ((Below.refl _ _).alloc (Nat.le_refl _) _))
      have RB12 := Lib.hid (show w12.heap[mb]? = some (.cells #[.int .i64 xd, .float .f32 xa, .float .f32 xs, .int .u64 xl, .int .u64 xh] 32) from by rw [h12]; exact row_kept RB11.out ((Below.refl _ _).alloc (Nat.le_refl _) _))
      have RC12 := Lib.hid (show w12.heap[mc]? = some (.cells #[.float .f32 (D 0), .float .f32 (D 1), .float .f32 (D 2), .float .f32 (D 3), .float .f32 (D 4), .float .f32 (D 5), .float .f32 (D 6), .float .f32 (D 7)] 57) from by rw [h12]; exact row_kept RC11.out ((Below.refl _ _).alloc (Nat.le_refl _) _))
      have HB12 := Lib.hid (show Below w.heap.size w w12 from by rw [h12]; exact HB11.out.alloc HB11.out.size _)
      have RD12 := Lib.hid (show w12.heap[md]? = some (.cells #[.float .f32 (D 0), .float .f32 (D 1), .float .f32 (D 2), .float .f32 (D 3), .float .f32 (D 4), .float .f32 (D 5), .float .f32 (D 6), .float .f32 (D 7)] 57) from by rw [h12]; exact alloc_at hmd)
      clear h12 hmd
      refine (swing_any g1 K q kx L1 w12 HK.out HSW.out.1 HSW.out.2.1 R I (by rw [← HX1.out]; exact HSW.out.2.2.1) (by rw [← HX1.out]; exact HSW.out.2.2.2) HI112.out).mono ?_
      rintro r0 w13 ⟨rfl, hb13⟩
      have HI113 := Lib.hid (HI112.out.kept hb13)
      have HI213 := Lib.hid (HI212.out.kept hb13)
      have HI313 := Lib.hid (HI312.out.kept hb13)
      have RA13 := Lib.hid (row_kept RA12.out hb13)
      have RB13 := Lib.hid (row_kept RB12.out hb13)
      have RC13 := Lib.hid (row_kept RC12.out hb13)
      have RD13 := Lib.hid (row_kept RD12.out hb13)
      have HB13 := Lib.hid (HB12.out.trans (hb13.mono HB12.out.size))
      clear hb13
      go_wp2_with fail
      refine (swing_any g2 K q kx L2 w13 HK.out HSW.out.1 HSW.out.2.1 R I (by rw [← HX2.out]; exact HSW.out.2.2.1) (by rw [← HX2.out]; exact HSW.out.2.2.2) HI213.out).mono ?_
      rintro r0 w14 ⟨rfl, hb14⟩
      have HI114 := Lib.hid (HI113.out.kept hb14)
      have HI214 := Lib.hid (HI213.out.kept hb14)
      have HI314 := Lib.hid (HI313.out.kept hb14)
      have RA14 := Lib.hid (row_kept RA13.out hb14)
      have RB14 := Lib.hid (row_kept RB13.out hb14)
      have RC14 := Lib.hid (row_kept RC13.out hb14)
      have RD14 := Lib.hid (row_kept RD13.out hb14)
      have HB14 := Lib.hid (HB13.out.trans (hb14.mono HB13.out.size))
      clear hb14
      go_wp2_with fail
      refine (quote_any g3 K L3 w14 HK.out HI314.out).mono ?_
      rintro r0 w15 ⟨rfl, hb15⟩
      have HI115 := Lib.hid (HI114.out.kept hb15)
      have HI215 := Lib.hid (HI214.out.kept hb15)
      have HI315 := Lib.hid (HI314.out.kept hb15)
      have RA15 := Lib.hid (row_kept RA14.out hb15)
      have RB15 := Lib.hid (row_kept RB14.out hb15)
      have RC15 := Lib.hid (row_kept RC14.out hb15)
      have RD15 := Lib.hid (row_kept RD14.out hb15)
      have HB15 := Lib.hid (HB14.out.trans (hb15.mono HB14.out.size))
      clear hb15
      rw [← HZ.out, HQZ.out]
      go_upto_region 21 with fail
      obtain ⟨me, hme⟩ : ∃ m, m = w15.heap.size := ⟨_, rfl⟩
      obtain ⟨w16, h16⟩ : ∃ W, W = w15.alloc (.cells #[.int .i64 (l.length : Int), .float .f32 za, .float .f32 zs, .int .u64 zl, .int .u64 zh] 32) := ⟨_, rfl⟩
      rw [← h16, ← hme]
      have HI116 := Lib.hid (show Ix w16 g1 L1 from by rw [h16]; exact HI115.out.kept ((Below.refl _ _).alloc (Nat.le_refl _) _))
      have HI216 := Lib.hid (show Ix w16 g2 L2 from by rw [h16]; exact HI215.out.kept ((Below.refl _ _).alloc (Nat.le_refl _) _))
      have HI316 := Lib.hid (show Ix w16 g3 L3 from by rw [h16]; exact HI315.out.kept ((Below.refl _ _).alloc (Nat.le_refl _) _))
      have RA16 := Lib.hid (show w16.heap[ma]? = some (.cells #[.int .i64 xd, .float .f32 xa, .float .f32 xs, .int .u64 xl, .int .u64 xh] 32) from by rw [h16]; exact row_kept RA15.out ((Below.refl _ _).alloc (Nat.le_refl _) _))
      have RB16 := Lib.hid (show w16.heap[mb]? = some (.cells #[.int .i64 xd, .float .f32 xa, .float .f32 xs, .int .u64 xl, .int .u64 xh] 32) from by rw [h16]; exact row_kept RB15.out ((Below.refl _ _).alloc (Nat.le_refl _) _))
      have RC16 := Lib.hid (show w16.heap[mc]? = some (.cells #[.float .f32 (D 0), .float .f32 (D 1), .float .f32 (D 2), .float .f32 (D 3), .float .f32 (D 4), .float .f32 (D 5), .float .f32 (D 6), .float .f32 (D 7)] 57) from by rw [h16]; exact row_kept RC15.out ((Below.refl _ _).alloc (Nat.le_refl _) _))
      have RD16 := Lib.hid (show w16.heap[md]? = some (.cells #[.float .f32 (D 0), .float .f32 (D 1), .float .f32 (D 2), .float .f32 (D 3), .float .f32 (D 4), .float .f32 (D 5), .float .f32 (D 6), .float .f32 (D 7)] 57) from by rw [h16]; exact row_kept RD15.out ((Below.refl _ _).alloc (Nat.le_refl _) _))
      have HB16 := Lib.hid (show Below w.heap.size w w16 from by rw [h16]; exact HB15.out.alloc HB15.out.size _)
      have RE16 := Lib.hid (show w16.heap[me]? = some (.cells #[.int .i64 (l.length : Int), .float .f32 za, .float .f32 zs, .int .u64 zl, .int .u64 zh] 32) from by rw [h16]; exact alloc_at hme)
      clear h16 hme
      have HQT := Lib.hid (show ∀ V, Qt w16 V → (∀ i v, (#[.int .i64 xd, .float .f32 xa, .float .f32 xs, .int .u64 xl, .int .u64 xh] : Array Value)[i]? = some v → V.cell? ⟨ma, i, none⟩ = some v) ∧ (∀ i v, (#[.int .i64 xd, .float .f32 xa, .float .f32 xs, .int .u64 xl, .int .u64 xh] : Array Value)[i]? = some v → V.cell? ⟨mb, i, none⟩ = some v) ∧ (∀ i v, (#[.float .f32 (D 0), .float .f32 (D 1), .float .f32 (D 2), .float .f32 (D 3), .float .f32 (D 4), .float .f32 (D 5), .float .f32 (D 6), .float .f32 (D 7)] : Array Value)[i]? = some v → V.cell? ⟨mc, i, none⟩ = some v) ∧ (∀ i v, (#[.float .f32 (D 0), .float .f32 (D 1), .float .f32 (D 2), .float .f32 (D 3), .float .f32 (D 4), .float .f32 (D 5), .float .f32 (D 6), .float .f32 (D 7)] : Array Value)[i]? = some v → V.cell? ⟨md, i, none⟩ = some v) ∧ (∀ i v, (#[.int .i64 (l.length : Int), .float .f32 za, .float .f32 zs, .int .u64 zl, .int .u64 zh] : Array Value)[i]? = some v → V.cell? ⟨me, i, none⟩ = some v) from fun V hV =>
        ⟨fun i v h => by rw [hV.cell, cell_of_row _ _ _ _ _ _ RA16.out]; exact h, fun i v h => by rw [hV.cell, cell_of_row _ _ _ _ _ _ RB16.out]; exact h, fun i v h => by rw [hV.cell, cell_of_row _ _ _ _ _ _ RC16.out]; exact h, fun i v h => by rw [hV.cell, cell_of_row _ _ _ _ _ _ RD16.out]; exact h, fun i v h => by rw [hV.cell, cell_of_row _ _ _ _ _ _ RE16.out]; exact h⟩)
      obtain ⟨ka, kb, kc, kd', ke⟩ := HQT.out _ (Qt.refl _)
      have pa0 := ka 0 _ rfl
      have pa1 := ka 1 _ rfl
      have pa2 := ka 2 _ rfl
      have pa3 := ka 3 _ rfl
      have pa4 := ka 4 _ rfl
      have pb0 := kb 0 _ rfl
      have pb1 := kb 1 _ rfl
      have pb2 := kb 2 _ rfl
      have pb3 := kb 3 _ rfl
      have pb4 := kb 4 _ rfl
      have pc0 := kc 0 _ rfl
      have pc1 := kc 1 _ rfl
      have pc2 := kc 2 _ rfl
      have pc3 := kc 3 _ rfl
      have pc4 := kc 4 _ rfl
      have pc5 := kc 5 _ rfl
      have pc6 := kc 6 _ rfl
      have pc7 := kc 7 _ rfl
      have pd0 := kd' 0 _ rfl
      have pd1 := kd' 1 _ rfl
      have pd2 := kd' 2 _ rfl
      have pd3 := kd' 3 _ rfl
      have pd4 := kd' 4 _ rfl
      have pd5 := kd' 5 _ rfl
      have pd6 := kd' 6 _ rfl
      have pd7 := kd' 7 _ rfl
      have pe0 := ke 0 _ rfl
      clear ka kb kc kd' ke
      obtain ⟨f1, f2⟩ := HFA.out
      obtain ⟨f3, f4⟩ := HOR.out
      have f5 := HED.out
      have f6 : ((l.length : Int) != (l.length : Int)) = false := by simp
      go_upto_region 23 with fail
      clear f1 f2 f3 f4 f5 f6
      have HT2 := Lib.hid HQT.out
      clear pa0 pa1 pa2 pa3 pa4 pb0 pb1 pb2 pb3 pb4 pc0 pc1 pc2 pc3 pc4 pc5 pc6 pc7 pd0 pd1 pd2 pd3 pd4 pd5 pd6 pd7 pe0 HQT
      by_cases h0 : l.length = 0
      · have b0 : ((l.length : Int) == 0) = true := by rw [beq_iff_eq]; omega
        clear h0
        refine wp_region_inv2 27 (fun V => Qt w16 V) (by kernel_rfl) (by kernel_rfl) (fun m => ⟨m, rfl⟩) ?_
        simp only [List.take_succ_cons, List.take_zero]
        iterate 27
          first
            | (apply wpInv_skip
               · rfl)
            | (apply wpInv_cons
               · rfl
               · intro Wx hw
                 (go_simp; exact ⟨hw, rfl⟩))
          simp only [Act.put, List.setIfInBounds_toArray, List.set_cons_zero, List.set_cons_succ]
        refine wpInv_nil fun V3 hV => ?_
        simp only [List.drop_succ_cons, List.drop_zero]
        go_wp2
        go_ret
        exact ⟨rfl, HB16.out.trans (hV.below _)⟩
      · have b0 : ((l.length : Int) == 0) = false := by rw [beq_eq_false_iff_ne]; omega
        obtain ⟨rfl, rfl, rfl, rfl⟩ := HZZ.out h0
        obtain ⟨fp, hfp⟩ : ∃ z, z = fuW p := ⟨_, rfl⟩
        rw [← hfp] at HT2
        have y1 : (FloatKind.f32.format.order fp fp == some Ordering.eq) = true := beq_of (ord_self (by rw [hfp]; exact fuW_fin HPX.out))
        have y2 : (FloatKind.f32.format.order 0 0 == some Ordering.eq) = true := beq_of fl.order_zero
        have y3 : ((p : Int) == (p : Int)) = true := by simp
        have HFU := Lib.hid (show ∀ V, Qt w16 V → Calls Try.prog 22 #[.int .u64 (p : Int)] V fun r V' => r = .returned (.float .f32 fp) ∧ Qt w16 V' from fun V hV => by
          rw [hfp]; exact (n03.pfu_any p V).mono fun r V' h => ⟨h.1, h.2 ▸ hV⟩)
        clear h0 hfp
        refine wp_region_inv2 27 (fun V => Qt w16 V) (by kernel_rfl) (by kernel_rfl) (fun m => ⟨m, rfl⟩) ?_
        simp only [List.take_succ_cons, List.take_zero]
        iterate 27
          first
            | (apply wpInv_skip
               · rfl)
            | (apply wpInv_cons
               · rfl
               · intro Wx hw
                 have ke := (HT2.out Wx hw).2.2.2.2
                 have k1 := ke 1 _ rfl
                 have k2 := ke 2 _ rfl
                 have k3 := ke 3 _ rfl
                 have k4 := ke 4 _ rfl
                 clear ke
                 first
                   | (go_simp; exact ⟨hw, rfl⟩)
                   | (go_simp; show Calls _ _ _ _ _; with_reducible exact HFU.out _ hw))
          simp only [Act.put, List.setIfInBounds_toArray, List.set_cons_zero, List.set_cons_succ]
        refine wpInv_nil fun V3 hV => ?_
        simp only [List.drop_succ_cons, List.drop_zero]
        go_wp2
        go_ret
        exact ⟨rfl, HB16.out.trans (hV.below _)⟩
theorem own : ownKnob Try.prog.godebug = none := by kernel_rfl
theorem laidOut : laidOutB Try.prog = true := by kernel_rfl
set_option maxRecDepth 100000 in
theorem lifted (os : Os) (started : os.Started) (H : Type) (enc : TypeId × Value → H) :
    ReturnsInHanded {} Try.checked os 6 .any (Rows.indexAloneSpec.pre6 enc Try.prog Try.f6 Rows.indexAloneRow.domain false) (Rows.indexAloneSpec.post enc Try.prog Try.f6 false true false false) := by
  refine returnsInHanded_of_change_sized (C := Try.checked) own started (by kernel_rfl) Try.func6
    (ChangeSpec.witness6 (enc := enc) (C := Try.checked) false ⟨#[], #[.slice none 0 0, .int .u64 0, .int .i64 0, .int .i64 0], []⟩ 8 (by kernel_rfl) (by kernel_rfl) (by kernel_rfl) (by kernel_rfl)) ?_
  intro W base args ds gs before hval0 hW hcnd hsz0 _
  have hsz : (DataW.weightsEach Try.prog (Try.f6.params.toList ++ Rows.indexAloneSpec.plain.varTypes Try.prog) (ds ++ gs)).all (· ≤ reachBytes) = true := hsz0
  clear hsz0
  have hval : ∀ (j : Nat) t v, Try.f6.params[j]? = some t → args[j]? = some v → Value.okWide Try.prog W .any base t v := hval0
  have hW' := hW
  obtain ⟨p, q, hA0, hV, rfl, hfz, hnd⟩ := hW
  have hA : DataW.TrodAll enc Try.prog W 0 (fun _ => true) true Try.f6.params.toList args.toList ds p := hA0
  rw [Try.params6] at hA hval hsz
  obtain ⟨v0, vs0, d0, ds0, p0, q0, hargs, rfl, rfl, h0, r0⟩ := trodAll_cons hA
  obtain ⟨v1, vs1, d1, ds1, p1, q1, rfl, rfl, rfl, h1, r1⟩ := trodAll_cons r0
  obtain ⟨v2, vs2, d2, ds2, p2, q2, rfl, rfl, rfl, h2, r2⟩ := trodAll_cons r1
  obtain ⟨v3, vs3, d3, ds3, p3, q3, rfl, rfl, rfl, h3, r3⟩ := trodAll_cons r2
  obtain ⟨rfl, rfl, rfl⟩ := trodAll_nil r3
  obtain rfl : args = #[v0, v1, v2, v3] := by cases args; simp_all
  obtain ⟨rfl, rfl⟩ := trodVars_none hV
  have k0 := h0
  have lt0 : ∀ x ∈ p0, x.block < W.heap.size := by obtain ⟨m, hm⟩ := k0; exact DataW.trod_lt m _ _ _ hm
  obtain ⟨a0, cap0, l0, rfl, n0⟩ := open_dls (hval 0 22 v0 rfl rfl) h0 hsz (j := 0) rfl rfl
  obtain ⟨a1, rfl, rfl, rfl, w1⟩ := open_int Try.underlying30 (hval 1 30 v1 rfl rfl) h1
  obtain ⟨x1, rfl⟩ := u64_of_wf w1
  obtain ⟨a2, rfl, rfl, rfl, w2⟩ := open_int Try.underlying3 (hval 2 3 v2 rfl rfl) h2
  have b2 := i64_of_wf w2
  obtain ⟨a3, rfl, rfl, rfl, w3⟩ := open_int Try.underlying3 (hval 3 3 v3 rfl rfl) h3
  have b3 := i64_of_wf w3
  clear hA0 hval0
  refine (walk a0 cap0 l0 x1 a2 a3 W n0 b2 b3).mono fun e W' ⟨he, bel⟩ => ?_
  subst he
  exact ⟨_, rfl, _, _, _, [], _, [], hW', trodAll_mk1 (shut_bool Try.underlying4 _), (trodAll_cons_mk (Below.trod laidOut (by kernel_rfl) (of_decide_eq_true (by kernel_rfl)) k0 bel lt0) (trodAll_cons_mk (shut_int Try.underlying30 w1) (trodAll_cons_mk (shut_int Try.underlying3 w2) (trodAll_cons_mk (shut_int Try.underlying3 w3) trodAll_mk0)))), rfl, bel.frame _, fun h => by cases h⟩
theorem over : Rows.indexAloneRow.holds Try.pinned (OpenSpec.ofChange Rows.indexAloneSpec) :=
  OpenClaim.holds_of_wide 6 Try.f6 rfl rfl rfl rfl rfl rfl rfl ⟨rfl, rfl, rfl, rfl, rfl⟩ rfl rfl rfl rfl rfl (by kernel_rfl) Try.func6 (by kernel_rfl)
    (of_decide_eq_true (by kernel_rfl)) (by unfold Func.isWrapper; first | (rw [if_pos (by decide +kernel)]; kernel_rfl) | (rw [if_neg (by decide +kernel)]; exact ⟨rfl, rfl⟩))
    (fun os started H enc _ => lifted os started H enc)
theorem proved : Rows.IndexAloneSaid := over
#print axioms proved
end Go.Proofs.Ythadfopkacbnlaa.lawIndexAlone
