/-
  Proved: LootLeaps answers true for every state, step and two numbers. No condition.
-/
import Derived.Test.YtndhlgbpfkidbaaTd
import Derived.Test.YtndhlgbpfkidbaaGen
import Derived.Deep.Slices
namespace Go.Proofs.Ytndhlgbpfkidbaa.lawLootLeaps
open Go.ChangeShapes Go.WideShapes Go.ChangeAt Go.RowKit Go.K Go.Dice
set_option linter.unusedVariables false
set_option linter.unusedSimpArgs false
theorem iter_wrap (a s : BitVec 64) (h : ∀ x, diter a x (2 ^ 64) = x) : ∀ q r, diter a s (2 ^ 64 * q + r) = diter a s r
  | 0, r => by rw [Nat.mul_zero, Nat.zero_add]
  | q + 1, r => by rw [show 2 ^ 64 * (q + 1) + r = 2 ^ 64 + (2 ^ 64 * q + r) by omega, iter_add, h, iter_wrap a s h q r]
theorem iter_full (a b : BitVec 64) (ha : a = 2#64 * b + 1#64) (s : BitVec 64) : diter a s (2 ^ 64) = s := by
  rw [iter_pow]
  obtain ⟨v, hv⟩ := A_form 64
  obtain ⟨u, hu⟩ := C_form a b ha 64
  rw [hv, hu, p64]
  simp
theorem odd_form (t : BitVec 64) : ∃ b, t ||| 1#64 = 2#64 * b + 1#64 := by
  obtain ⟨r, h | h⟩ := parity (t ||| 1#64)
  · exfalso
    have h1 := odd_or t
    rw [h] at h1
    have h2 : (2#64 * r).getLsbD 0 = false := by rw [BitVec.mul_comm, show r * 2#64 = r <<< 1 by rw [BitVec.shiftLeft_eq_mul_twoPow]; rfl]; simp
    rw [h2] at h1; cases h1
  · exact ⟨r, h⟩
/-- Leaps add up, counted round. -/
theorem iter_sum (a b : BitVec 64) (ha : a = 2#64 * b + 1#64) (s x y : BitVec 64) : diter a s (x + y).toNat = diter a s (x.toNat + y.toNat) := by
  rw [BitVec.toNat_add]
  have h := Nat.div_add_mod (x.toNat + y.toNat) (2 ^ 64)
  conv => rhs; rw [← h]
  rw [iter_wrap a s (iter_full a b ha)]
theorem iter_back (a b : BitVec 64) (ha : a = 2#64 * b + 1#64) (s x : BitVec 64) : diter a (diter a s x.toNat) (-x).toNat = s := by
  rw [← iter_add, ← iter_sum a b ha s x (-x)]
  rw [BitVec.add_right_neg]
  rfl
set_option maxRecDepth 100000 in
set_option maxHeartbeats 8000000 in
theorem walk (s t n m : BitVec 64) (w : World) : Calls Try.prog 7 #[.int .u64 (U64 s), .int .u64 (U64 t), .int .u64 (U64 n), .int .u64 (U64 m)] w fun r w' => r = .returned (.bool true) ∧ Below w.heap.size w w' := by
  obtain ⟨a, ha⟩ : ∃ a, a = t ||| 1#64 := ⟨_, rfl⟩
  have HA := Lib.hid ha
  have HAT := Lib.hid (fun W => show Calls Try.prog 11 #[.int .u64 (U64 s), .int .u64 (U64 t)] W fun e w' => e = .returned (.pointer (some ⟨W.heap.size, 0, none⟩)) ∧ w' = W.alloc (.cells (dRow s a) 85) from by rw [ha]; exact at_any s t W)
  clear ha
  go_enter Try.func7, Try.ntmps7
  go_wp2_with fail
  refine (known_any w).mono ?_
  rintro r0 w3 ⟨rfl, hb1⟩
  have HBw3 := Lib.hid hb1
  clear hb1
  go_wp2_with fail
  refine (HAT.out w3).mono ?_
  rintro r0 w4 ⟨rfl, hw⟩
  obtain ⟨ga, hga⟩ : ∃ ga, ga = w3.heap.size := ⟨_, rfl⟩
  rw [← hga]
  have hal := (Below.refl w3.heap.size w3).alloc (Nat.le_refl _) (.cells (dRow (s) a) 85)
  rw [← hw] at hal
  have HBw4 := Lib.hid (HBw3.out.trans (hal.mono HBw3.out.size))
  have oA : w.heap.size ≤ ga := by have := HBw3.out.size; omega
  have hx : w4.heap[ga]? = some (.cells (dRow (s) a) 85) := by rw [hw]; exact alloc_at hga
  clear hw hal hga HBw3 
  have HRA := Lib.hid hx
  clear hx 
  go_wp2_with fail
  refine (HAT.out w4).mono ?_
  rintro r0 w5 ⟨rfl, hw⟩
  obtain ⟨gb, hgb⟩ : ∃ gb, gb = w4.heap.size := ⟨_, rfl⟩
  rw [← hgb]
  have hal := (Below.refl w4.heap.size w4).alloc (Nat.le_refl _) (.cells (dRow (s) a) 85)
  rw [← hw] at hal
  have HBw5 := Lib.hid (HBw4.out.trans (hal.mono HBw4.out.size))
  have hrA := row_kept HRA.out hal
  have oAB : ga < gb := by have := lt_row HRA.out; omega
  have oB : w.heap.size ≤ gb := by have := HBw4.out.size; omega
  have hx : w5.heap[gb]? = some (.cells (dRow (s) a) 85) := by rw [hw]; exact alloc_at hgb
  clear hw hal hgb HBw4 HRA
  have HRA := Lib.hid hrA
  have HRB := Lib.hid hx
  clear hx hrA
  go_wp2_with fail
  refine (HAT.out w5).mono ?_
  rintro r0 w6 ⟨rfl, hw⟩
  obtain ⟨gc, hgc⟩ : ∃ gc, gc = w5.heap.size := ⟨_, rfl⟩
  rw [← hgc]
  have hal := (Below.refl w5.heap.size w5).alloc (Nat.le_refl _) (.cells (dRow (s) a) 85)
  rw [← hw] at hal
  have HBw6 := Lib.hid (HBw5.out.trans (hal.mono HBw5.out.size))
  have hrA := row_kept HRA.out hal
  have hrB := row_kept HRB.out hal
  have oAC : ga < gc := by have := lt_row HRA.out; omega
  have oBC : gb < gc := by have := lt_row HRB.out; omega
  have oC : w.heap.size ≤ gc := by have := HBw5.out.size; omega
  have hx : w6.heap[gc]? = some (.cells (dRow (s) a) 85) := by rw [hw]; exact alloc_at hgc
  clear hw hal hgc HBw5 HRA HRB
  have HRA := Lib.hid hrA
  have HRB := Lib.hid hrB
  have HRC := Lib.hid hx
  clear hx hrA hrB
  have ho := or1_x t
  rw [← HA.out] at ho
  have HO := Lib.hid ho
  obtain ⟨few, hfew⟩ : ∃ few : BitVec 64, few = BitVec.ofNat 64 (n.toNat % 300) := ⟨_, rfl⟩
  have hf1 : few.toNat = n.toNat % 300 := by rw [hfew, BitVec.toNat_ofNat, Nat.mod_eq_of_lt (by have := Nat.mod_lt n.toNat (show 0 < 300 by decide); omega)]
  have hf3 : few.toNat < 300 := by rw [hf1]; exact Nat.mod_lt _ (by decide)
  have e300 : (U64 n).tmod 300 = U64 few := by unfold U64; rw [hf1]; exact (Int.ofNat_tmod n.toNat 300).symm
  have HF3 := Lib.hid hf3
  clear hfew hf1 ho
  go_wp2
  clear e300 hf3
  go_loopw [13] (fun x13 V => ∃ i : Nat, i ≤ few.toNat ∧ x13 = .int .u64 i ∧ Below w.heap.size w V ∧ V.heap[ga]? = some (.cells (dRow (diter a s i) a) 85) ∧ V.heap[gb]? = some (.cells (dRow s a) 85) ∧ V.heap[gc]? = some (.cells (dRow s a) 85)) (fun x13 _ => few.toNat - (intOf x13).toNat)
  case atStart => exact ⟨0, by omega, rfl, HBw6.out, HRA.out, HRB.out, HRC.out⟩
  case round =>
    clear HBw6 HRA HRB HRC
    obtain ⟨i, hi, rfl, hb, hra, hrb, hrc⟩ := hrel
    have HBwr := Lib.hid hb
    have HRA := Lib.hid hra
    have HRB := Lib.hid hrb
    have HRC := Lib.hid hrc
    clear hb hra hrb hrc
    have uf : U64 few = (few.toNat : Int) := rfl
    by_cases hlt : i < few.toNat
    case pos =>
      have t0 : decide ((i : Int) < U64 few) = true := by rw [uf]; simp; omega
      have HLT := Lib.hid hlt
      have b9 : (i : Int) < 300 := by have := HF3.out; omega
      clear hlt hi uf
      have KX := Lib.hid (word_any ga _ a wr HRA.out)
      go_wp2_with fail
      refine KX.out.mono ?_
      rintro r0 w7 ⟨rfl, hg, hr⟩
      have HBw7 := Lib.hid (show Below w.heap.size w w7 from HBwr.out.grown hg HBwr.out.size (fun k hk => by injection hk with e; omega))
      have hrB := row_past HRB.out hg (fun e => by injection e with e; omega)
      have hrC := row_past HRC.out hg (fun e => by injection e with e; omega)
      clear KX HBwr HRA HRB HRC
      have HRA := Lib.hid (show w7.heap[ga]? = some (.cells (dRow (diter a s (i + 1)) a) 85) from hr)
      have HRB := Lib.hid hrB
      have HRC := Lib.hid hrC
      clear hg hr hrB hrC
      go_wp2
      go_roundw
      case rel => exact ⟨i + 1, HLT.out, by go_num, HBw7.out, HRA.out, HRB.out, HRC.out⟩
      case measure => have := HLT.out; simp [intOf]; omega
    case neg =>
      have t0 : decide ((i : Int) < U64 few) = false := by rw [uf]; simp; omega
      obtain rfl : i = few.toNat := by omega
      clear hlt hi uf
      have KX := Lib.hid (skip_any gb _ a few wr HRB.out)
      go_wp2_with fail
      refine KX.out.mono ?_
      rintro r0 w8 ⟨rfl, hg, hr⟩
      have HBw8 := Lib.hid (show Below w.heap.size w w8 from HBwr.out.grown hg HBwr.out.size (fun k hk => by injection hk with e; omega))
      have hrA := row_past HRA.out hg (fun e => by injection e with e; omega)
      have hrC := row_past HRC.out hg (fun e => by injection e with e; omega)
      clear KX HBwr HRA HRB HRC
      have HRB := Lib.hid (show w8.heap[gb]? = some (.cells (dRow (diter a s few.toNat) a) 85) from hr)
      have HRA := Lib.hid hrA
      have HRC := Lib.hid hrC
      clear hg hr hrA hrC
      have KX := Lib.hid (state_any ga _ a w8 HRA.out)
      go_wp2_with fail
      refine KX.out.mono ?_
      rintro r0 w9 ⟨rfl, md, hm⟩
      have hq := (Qt.drewN w8 md).below w8.heap.size
      rw [← hm] at hq
      have HBw9 := Lib.hid (HBw8.out.trans (hq.mono HBw8.out.size))
      have hrA := row_kept HRA.out hq
      have hrB := row_kept HRB.out hq
      have hrC := row_kept HRC.out hq
      clear KX hm hq HBw8 HRA HRB HRC
      have HRA := Lib.hid hrA
      have HRB := Lib.hid hrB
      have HRC := Lib.hid hrC
      clear hrA hrB hrC
      have KX := Lib.hid (state_any gb _ a w9 HRB.out)
      go_wp2_with fail
      refine KX.out.mono ?_
      rintro r0 w10 ⟨rfl, md, hm⟩
      have hq := (Qt.drewN w9 md).below w9.heap.size
      rw [← hm] at hq
      have HBw10 := Lib.hid (HBw9.out.trans (hq.mono HBw9.out.size))
      have hrA := row_kept HRA.out hq
      have hrB := row_kept HRB.out hq
      have hrC := row_kept HRC.out hq
      clear KX hm hq HBw9 HRA HRB HRC
      have HRA := Lib.hid hrA
      have HRB := Lib.hid hrB
      have HRC := Lib.hid hrC
      clear hrA hrB hrC
      have ho := HO.out
      have q1 := bne_self_eq_false (U64 (diter a s few.toNat))
      have q2 := bne_self_eq_false (U64 a)
      go_wp2_with fail
      clear q1 q2 ho t0
      refine (HAT.out w10).mono ?_
      rintro r0 w11 ⟨rfl, hw⟩
      obtain ⟨gd, hgd⟩ : ∃ gd, gd = w10.heap.size := ⟨_, rfl⟩
      rw [← hgd]
      have hal := (Below.refl w10.heap.size w10).alloc (Nat.le_refl _) (.cells (dRow (s) a) 85)
      rw [← hw] at hal
      have HBw11 := Lib.hid (HBw10.out.trans (hal.mono HBw10.out.size))
      have hrC := row_kept HRC.out hal
      have oCD : gc < gd := by have := lt_row HRC.out; omega
      have oD : w.heap.size ≤ gd := by have := HBw10.out.size; omega
      have hx : w11.heap[gd]? = some (.cells (dRow (s) a) 85) := by rw [hw]; exact alloc_at hgd
      clear hw hal hgd HBw10 HRC HRA HRB
      have HRC := Lib.hid hrC
      have HRD := Lib.hid hx
      clear hx hrC
      go_wp2_with fail
      refine (HAT.out w11).mono ?_
      rintro r0 w12 ⟨rfl, hw⟩
      obtain ⟨ge, hge⟩ : ∃ ge, ge = w11.heap.size := ⟨_, rfl⟩
      rw [← hge]
      have hal := (Below.refl w11.heap.size w11).alloc (Nat.le_refl _) (.cells (dRow (s) a) 85)
      rw [← hw] at hal
      have HBw12 := Lib.hid (HBw11.out.trans (hal.mono HBw11.out.size))
      have hrC := row_kept HRC.out hal
      have hrD := row_kept HRD.out hal
      have oCE : gc < ge := by have := lt_row HRC.out; omega
      have oDE : gd < ge := by have := lt_row HRD.out; omega
      have oE : w.heap.size ≤ ge := by have := HBw11.out.size; omega
      have hx : w12.heap[ge]? = some (.cells (dRow (s) a) 85) := by rw [hw]; exact alloc_at hge
      clear hw hal hge HBw11 HRC HRD
      have HRC := Lib.hid hrC
      have HRD := Lib.hid hrD
      have HRE := Lib.hid hx
      clear hx hrC hrD
      have KX := Lib.hid (skip_any gd _ a n w12 HRD.out)
      go_wp2_with fail
      refine KX.out.mono ?_
      rintro r0 w13 ⟨rfl, hg, hr⟩
      have HBw13 := Lib.hid (show Below w.heap.size w w13 from HBw12.out.grown hg HBw12.out.size (fun k hk => by injection hk with e; omega))
      have hrC := row_past HRC.out hg (fun e => by injection e with e; omega)
      have hrE := row_past HRE.out hg (fun e => by injection e with e; omega)
      clear KX HBw12 HRC HRD HRE
      have HRD := Lib.hid (show w13.heap[gd]? = some (.cells (dRow (diter a s n.toNat) a) 85) from hr)
      have HRC := Lib.hid hrC
      have HRE := Lib.hid hrE
      clear hg hr hrC hrE
      have KX := Lib.hid (skip_any gd _ a m w13 HRD.out)
      go_wp2_with fail
      refine KX.out.mono ?_
      rintro r0 w14 ⟨rfl, hg, hr⟩
      have HBw14 := Lib.hid (show Below w.heap.size w w14 from HBw13.out.grown hg HBw13.out.size (fun k hk => by injection hk with e; omega))
      have hrC := row_past HRC.out hg (fun e => by injection e with e; omega)
      have hrE := row_past HRE.out hg (fun e => by injection e with e; omega)
      clear KX HBw13 HRC HRD HRE
      have HRD := Lib.hid (show w14.heap[gd]? = some (.cells (dRow (diter a (diter a s n.toNat) m.toNat) a) 85) from hr)
      have HRC := Lib.hid hrC
      have HRE := Lib.hid hrE
      clear hg hr hrC hrE
      have KX := Lib.hid (skip_any ge _ a m w14 HRE.out)
      go_wp2_with fail
      refine KX.out.mono ?_
      rintro r0 w15 ⟨rfl, hg, hr⟩
      have HBw15 := Lib.hid (show Below w.heap.size w w15 from HBw14.out.grown hg HBw14.out.size (fun k hk => by injection hk with e; omega))
      have hrC := row_past HRC.out hg (fun e => by injection e with e; omega)
      have hrD := row_past HRD.out hg (fun e => by injection e with e; omega)
      clear KX HBw14 HRC HRD HRE
      have HRE := Lib.hid (show w15.heap[ge]? = some (.cells (dRow (diter a s m.toNat) a) 85) from hr)
      have HRC := Lib.hid hrC
      have HRD := Lib.hid hrD
      clear hg hr hrC hrD
      have KX := Lib.hid (skip_any ge _ a n w15 HRE.out)
      go_wp2_with fail
      refine KX.out.mono ?_
      rintro r0 w16 ⟨rfl, hg, hr⟩
      have HBw16 := Lib.hid (show Below w.heap.size w w16 from HBw15.out.grown hg HBw15.out.size (fun k hk => by injection hk with e; omega))
      have hrC := row_past HRC.out hg (fun e => by injection e with e; omega)
      have hrD := row_past HRD.out hg (fun e => by injection e with e; omega)
      clear KX HBw15 HRC HRD HRE
      have HRE := Lib.hid (show w16.heap[ge]? = some (.cells (dRow (diter a (diter a s m.toNat) n.toNat) a) 85) from hr)
      have HRC := Lib.hid hrC
      have HRD := Lib.hid hrD
      clear hg hr hrC hrD
      have es := add_x n m
      have KX := Lib.hid (skip_any gc _ a (n + m) w16 HRC.out)
      go_wp2_with fail
      refine KX.out.mono ?_
      rintro r0 w17 ⟨rfl, hg, hr⟩
      have HBw17 := Lib.hid (show Below w.heap.size w w17 from HBw16.out.grown hg HBw16.out.size (fun k hk => by injection hk with e; omega))
      have hrD := row_past HRD.out hg (fun e => by injection e with e; omega)
      have hrE := row_past HRE.out hg (fun e => by injection e with e; omega)
      clear KX HBw16 HRC HRD HRE
      have HRC := Lib.hid (show w17.heap[gc]? = some (.cells (dRow (diter a s (n + m).toNat) a) 85) from hr)
      have HRD := Lib.hid hrD
      have HRE := Lib.hid hrE
      clear hg hr hrD hrE
      clear es
      obtain ⟨b, hb⟩ := odd_form t
      rw [← HA.out] at hb
      obtain ⟨S, hS⟩ : ∃ S, S = diter a s (n.toNat + m.toNat) := ⟨_, rfl⟩
      have HRD := Lib.hid (show w17.heap[gd]? = some (.cells (dRow S a) 85) from by rw [hS, iter_add]; exact HRD.out)
      have HRE := Lib.hid (show w17.heap[ge]? = some (.cells (dRow S a) 85) from by rw [hS, Nat.add_comm, iter_add]; exact HRE.out)
      have HRC := Lib.hid (show w17.heap[gc]? = some (.cells (dRow S a) 85) from by rw [hS, ← iter_sum a b hb s n m]; exact HRC.out)
      have HBK := Lib.hid (iter_back a b hb s n)
      clear hS hb
      have KX := Lib.hid (state_any gd _ a w17 HRD.out)
      go_wp2_with fail
      refine KX.out.mono ?_
      rintro r0 w18 ⟨rfl, md, hm⟩
      have hq := (Qt.drewN w17 md).below w17.heap.size
      rw [← hm] at hq
      have HBw18 := Lib.hid (HBw17.out.trans (hq.mono HBw17.out.size))
      have hrC := row_kept HRC.out hq
      have hrD := row_kept HRD.out hq
      have hrE := row_kept HRE.out hq
      clear KX hm hq HBw17 HRC HRD HRE
      have HRC := Lib.hid hrC
      have HRD := Lib.hid hrD
      have HRE := Lib.hid hrE
      clear hrC hrD hrE
      have KX := Lib.hid (state_any ge _ a w18 HRE.out)
      go_wp2_with fail
      refine KX.out.mono ?_
      rintro r0 w19 ⟨rfl, md, hm⟩
      have hq := (Qt.drewN w18 md).below w18.heap.size
      rw [← hm] at hq
      have HBw19 := Lib.hid (HBw18.out.trans (hq.mono HBw18.out.size))
      have hrC := row_kept HRC.out hq
      have hrD := row_kept HRD.out hq
      have hrE := row_kept HRE.out hq
      clear KX hm hq HBw18 HRC HRD HRE
      have HRC := Lib.hid hrC
      have HRD := Lib.hid hrD
      have HRE := Lib.hid hrE
      clear hrC hrD hrE
      have KX := Lib.hid (state_any gc _ a w19 HRC.out)
      go_wp2_with fail
      refine KX.out.mono ?_
      rintro r0 w20 ⟨rfl, md, hm⟩
      have hq := (Qt.drewN w19 md).below w19.heap.size
      rw [← hm] at hq
      have HBw20 := Lib.hid (HBw19.out.trans (hq.mono HBw19.out.size))
      have hrC := row_kept HRC.out hq
      have hrD := row_kept HRD.out hq
      have hrE := row_kept HRE.out hq
      clear KX hm hq HBw19 HRC HRD HRE
      have HRC := Lib.hid hrC
      have HRD := Lib.hid hrD
      have HRE := Lib.hid hrE
      clear hrC hrD hrE
      have q1 := bne_self_eq_false (U64 S)
      have KX := Lib.hid (state_any gd _ a w20 HRD.out)
      go_wp2_with fail
      refine KX.out.mono ?_
      rintro r0 w21 ⟨rfl, md, hm⟩
      have hq := (Qt.drewN w20 md).below w20.heap.size
      rw [← hm] at hq
      have HBw21 := Lib.hid (HBw20.out.trans (hq.mono HBw20.out.size))
      have hrC := row_kept HRC.out hq
      have hrD := row_kept HRD.out hq
      have hrE := row_kept HRE.out hq
      clear KX hm hq HBw20 HRC HRD HRE
      have HRC := Lib.hid hrC
      have HRD := Lib.hid hrD
      have HRE := Lib.hid hrE
      clear hrC hrD hrE
      clear q1
      have HAS := Lib.hid (fun W => show Calls Try.prog 11 #[.int .u64 (U64 S), .int .u64 (U64 a)] W fun e w' => e = .returned (.pointer (some ⟨W.heap.size, 0, none⟩)) ∧ w' = W.alloc (.cells (dRow S a) 85) from by
        have h := at_any S a W
        have e : a ||| 1#64 = a := by rw [HA.out, BitVec.or_assoc]; rfl
        rw [e] at h; exact h)
      go_wp2_with fail
      refine (HAS.out w21).mono ?_
      rintro r0 w22 ⟨rfl, hw⟩
      obtain ⟨gf, hgf⟩ : ∃ gf, gf = w21.heap.size := ⟨_, rfl⟩
      rw [← hgf]
      have hal := (Below.refl w21.heap.size w21).alloc (Nat.le_refl _) (.cells (dRow (S) a) 85)
      rw [← hw] at hal
      have HBw22 := Lib.hid (HBw21.out.trans (hal.mono HBw21.out.size))
      have hrD := row_kept HRD.out hal
      have oDF : gd < gf := by have := lt_row HRD.out; omega
      have oF : w.heap.size ≤ gf := by have := HBw21.out.size; omega
      have hx : w22.heap[gf]? = some (.cells (dRow (S) a) 85) := by rw [hw]; exact alloc_at hgf
      clear hw hal hgf HBw21 HRD HRE HRC
      have HRD := Lib.hid hrD
      have HRF := Lib.hid hx
      clear hx hrD
      go_wp2
      go_loopw [19] (fun x19 V => ∃ i : Nat, i ≤ 5 ∧ x19 = .int .i64 i ∧ Below w.heap.size w V ∧ V.heap[gd]? = some (.cells (dRow (diter a S i) a) 85) ∧ V.heap[gf]? = some (.cells (dRow (diter a S i) a) 85)) (fun x19 _ => 5 - (intOf x19).toNat)
      case atStart => exact ⟨0, by omega, rfl, HBw22.out, HRD.out, HRF.out⟩
      case round =>
        clear HBw22 HRD HRF
        obtain ⟨i, hi, rfl, hb, hrd, hrf⟩ := hrel
        have HBwr := Lib.hid hb
        have HRD := Lib.hid hrd
        have HRF := Lib.hid hrf
        clear hb hrd hrf
        by_cases hlt : i < 5
        case pos =>
          have t0 : decide ((i : Int) < 5) = true := by simp; omega
          have HLT := Lib.hid hlt
          have b9 : (i : Int) < 5 := by omega
          clear hlt hi
          have KX := Lib.hid (word_any gf _ a wr HRF.out)
          go_wp2_with fail
          refine KX.out.mono ?_
          rintro r0 w23 ⟨rfl, hg, hr⟩
          have HBw23 := Lib.hid (show Below w.heap.size w w23 from HBwr.out.grown hg HBwr.out.size (fun k hk => by injection hk with e; omega))
          have hrD := row_past HRD.out hg (fun e => by injection e with e; omega)
          clear KX HBwr HRD HRF
          have HRF := Lib.hid (show w23.heap[gf]? = some (.cells (dRow (diter a S (i + 1)) a) 85) from hr)
          have HRD := Lib.hid hrD
          clear hg hr hrD
          have KX := Lib.hid (word_any gd _ a w23 HRD.out)
          go_wp2_with fail
          refine KX.out.mono ?_
          rintro r0 w24 ⟨rfl, hg, hr⟩
          have HBw24 := Lib.hid (show Below w.heap.size w w24 from HBw23.out.grown hg HBw23.out.size (fun k hk => by injection hk with e; omega))
          have hrF := row_past HRF.out hg (fun e => by injection e with e; omega)
          clear KX HBw23 HRD HRF
          have HRD := Lib.hid (show w24.heap[gd]? = some (.cells (dRow (diter a S (i + 1)) a) 85) from hr)
          have HRF := Lib.hid hrF
          clear hg hr hrF
          have q1 := bne_self_eq_false (U32 (dword (diter a S i)))
          go_wp2
          go_roundw
          case rel => exact ⟨i + 1, HLT.out, by go_num, HBw24.out, HRD.out, HRF.out⟩
          case measure => have := HLT.out; simp [intOf]; omega
        case neg =>
          have t0 : decide ((i : Int) < 5) = false := by simp; omega
          clear hlt hi
          by_cases h0 : n = 0#64
          case pos =>
            have q0 : (U64 n == 0) = true := by rw [h0]; decide
            clear h0
            go_wp2
            go_ret
            exact ⟨rfl, HBwr.out⟩
          case neg =>
            have q0 : (U64 n == 0) = false := by
              rw [beq_eq_false_iff_ne]; intro e; apply h0; apply BitVec.eq_of_toNat_eq; unfold U64 at e; simp; omega
            clear h0
            go_wp2_with fail
            refine (HAT.out wr).mono ?_
            rintro r0 w25 ⟨rfl, hw⟩
            obtain ⟨gg, hgg⟩ : ∃ gg, gg = wr.heap.size := ⟨_, rfl⟩
            rw [← hgg]
            have hal := (Below.refl wr.heap.size wr).alloc (Nat.le_refl _) (.cells (dRow (s) a) 85)
            rw [← hw] at hal
            have HBw25 := Lib.hid (HBwr.out.trans (hal.mono HBwr.out.size))
            have oG : w.heap.size ≤ gg := by have := HBwr.out.size; omega
            have hx : w25.heap[gg]? = some (.cells (dRow (s) a) 85) := by rw [hw]; exact alloc_at hgg
            clear hw hal hgg HBwr HRD HRF
            have HRG := Lib.hid hx
            clear hx 
            have KX := Lib.hid (skip_any gg _ a n w25 HRG.out)
            go_wp2_with fail
            refine KX.out.mono ?_
            rintro r0 w26 ⟨rfl, hg, hr⟩
            have HBw26 := Lib.hid (show Below w.heap.size w w26 from HBw25.out.grown hg HBw25.out.size (fun k hk => by injection hk with e; omega))
            clear KX HBw25 HRG
            have HRG := Lib.hid (show w26.heap[gg]? = some (.cells (dRow (diter a s n.toNat) a) 85) from hr)
            clear hg hr 
            clear t0 q0
            have en : IntKind.u64.wrap (-U64 n) = U64 (-n) := by
              rw [wrap_U64]; congr 1; unfold U64; rw [BitVec.ofInt_neg]; congr 1; simp
            have KX := Lib.hid (skip_any gg _ a (-n) w26 HRG.out)
            go_wp2_with fail
            refine KX.out.mono ?_
            rintro r0 w27 ⟨rfl, hg, hr⟩
            have HBw27 := Lib.hid (show Below w.heap.size w w27 from HBw26.out.grown hg HBw26.out.size (fun k hk => by injection hk with e; omega))
            clear KX HBw26 HRG
            have HRG := Lib.hid (show w27.heap[gg]? = some (.cells (dRow (diter a (diter a s n.toNat) (-n).toNat) a) 85) from hr)
            clear hg hr 
            have hg3 := HRG.out
            rw [HBK.out] at hg3
            clear HRG en
            have HRG := Lib.hid hg3
            clear hg3
            have KX := Lib.hid (state_any gg _ a w27 HRG.out)
            go_wp2_with fail
            refine KX.out.mono ?_
            rintro r0 w28 ⟨rfl, md, hm⟩
            have hq := (Qt.drewN w27 md).below w27.heap.size
            rw [← hm] at hq
            have HBw28 := Lib.hid (HBw27.out.trans (hq.mono HBw27.out.size))
            have hrG := row_kept HRG.out hq
            clear KX hm hq HBw27 HRG
            have HRG := Lib.hid hrG
            clear hrG
            have ho := HO.out
            have q1 : (U64 s == U64 s) = true := beq_self_eq_true _
            have q2 : (U64 a == U64 a) = true := beq_self_eq_true _
            go_wp2
            go_ret
            exact ⟨rfl, HBw28.out⟩
theorem own : ownKnob Try.prog.godebug = none := by kernel_rfl
theorem laidOut : laidOutB Try.prog = true := by kernel_rfl
set_option maxRecDepth 100000 in
theorem lifted (os : Os) (started : os.Started) (H : Type) (enc : TypeId × Value → H) :
    ReturnsInHanded {} Try.checked os 7 .any (Rows.lootLeapsSpec.pre6 enc Try.prog Try.f7 Rows.lootLeapsRow.domain false) (Rows.lootLeapsSpec.post enc Try.prog Try.f7 false true false false) := by
  refine returnsInHanded_of_change_sized (C := Try.checked) own started (by kernel_rfl) Try.func7
    (ChangeSpec.witness6 (enc := enc) (C := Try.checked) false ⟨#[], #[.int .u64 0, .int .u64 0, .int .u64 0, .int .u64 0], []⟩ 8 (by kernel_rfl) (by kernel_rfl) (by kernel_rfl) (by kernel_rfl)) ?_
  intro W base args ds gs before hval0 hW hcnd hsz0 _
  have hsz : (DataW.weightsEach Try.prog (Try.f7.params.toList ++ Rows.lootLeapsSpec.plain.varTypes Try.prog) (ds ++ gs)).all (· ≤ reachBytes) = true := hsz0
  clear hsz0
  have hval : ∀ (j : Nat) t v, Try.f7.params[j]? = some t → args[j]? = some v → Value.okWide Try.prog W .any base t v := hval0
  have hW' := hW
  obtain ⟨p, q, hA0, hV, rfl, hfz, hnd⟩ := hW
  have hA : DataW.TrodAll enc Try.prog W 0 (fun _ => true) true Try.f7.params.toList args.toList ds p := hA0
  rw [Try.params7] at hA hval hsz
  obtain ⟨v0, vs0, d0, ds0, p0, q0, hargs, rfl, rfl, h0, r0⟩ := trodAll_cons hA
  obtain ⟨v1, vs1, d1, ds1, p1, q1, rfl, rfl, rfl, h1, r1⟩ := trodAll_cons r0
  obtain ⟨v2, vs2, d2, ds2, p2, q2, rfl, rfl, rfl, h2, r2⟩ := trodAll_cons r1
  obtain ⟨v3, vs3, d3, ds3, p3, q3, rfl, rfl, rfl, h3, r3⟩ := trodAll_cons r2
  obtain ⟨rfl, rfl, rfl⟩ := trodAll_nil r3
  obtain rfl : args = #[v0, v1, v2, v3] := by cases args; simp_all
  obtain ⟨rfl, rfl⟩ := trodVars_none hV
  obtain ⟨a0, rfl, rfl, rfl, w0⟩ := open_int Try.underlying22 (hval 0 22 v0 rfl rfl) h0
  obtain ⟨x0, rfl⟩ := u64_of_wf w0
  obtain ⟨a1, rfl, rfl, rfl, w1⟩ := open_int Try.underlying22 (hval 1 22 v1 rfl rfl) h1
  obtain ⟨x1, rfl⟩ := u64_of_wf w1
  obtain ⟨a2, rfl, rfl, rfl, w2⟩ := open_int Try.underlying22 (hval 2 22 v2 rfl rfl) h2
  obtain ⟨x2, rfl⟩ := u64_of_wf w2
  obtain ⟨a3, rfl, rfl, rfl, w3⟩ := open_int Try.underlying22 (hval 3 22 v3 rfl rfl) h3
  obtain ⟨x3, rfl⟩ := u64_of_wf w3
  clear hA0 hval0
  refine (walk x0 x1 x2 x3 W).mono fun e W' ⟨he, bel⟩ => ?_
  subst he
  exact ⟨_, rfl, _, _, _, [], _, [], hW', trodAll_mk1 (shut_bool Try.underlying4 _), (trodAll_cons_mk (shut_int Try.underlying22 w0) (trodAll_cons_mk (shut_int Try.underlying22 w1) (trodAll_cons_mk (shut_int Try.underlying22 w2) (trodAll_cons_mk (shut_int Try.underlying22 w3) trodAll_mk0)))), rfl, bel.frame _, fun h => by cases h⟩
theorem over : Rows.lootLeapsRow.holds Try.pinned (OpenSpec.ofChange Rows.lootLeapsSpec) :=
  OpenClaim.holds_of_wide 7 Try.f7 rfl rfl rfl rfl rfl rfl rfl ⟨rfl, rfl, rfl, rfl, rfl⟩ rfl rfl rfl rfl rfl (by kernel_rfl) Try.func7 (by kernel_rfl)
    (of_decide_eq_true (by kernel_rfl)) (by unfold Func.isWrapper; first | (rw [if_pos (by decide +kernel)]; kernel_rfl) | (rw [if_neg (by decide +kernel)]; exact ⟨rfl, rfl⟩))
    (fun os started H enc _ => lifted os started H enc)
theorem proved : Rows.LootLeapsSaid := over
#print axioms proved
end Go.Proofs.Ytndhlgbpfkidbaa.lawLootLeaps
