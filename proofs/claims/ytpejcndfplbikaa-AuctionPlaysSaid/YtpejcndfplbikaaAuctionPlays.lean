/-
  Of whatever contract and bids, one behind the other: every join, every end and all that goes back are the document's; what is handed in stays.
  No condition beyond the statement's own.
-/
import Derived.Test.YtpejcndfplbikaaMg
import Derived.Deep.RegionHeld3
namespace Go.Proofs.Ytpejcndfplbikaa.lawAuctionPlays
open Go.RowKit Go.K Go.Maps Go.ChangeShapes Go.WideShapes Go.ChangeAt
set_option linter.unusedVariables false
set_option linter.unusedSimpArgs false
/-- What stands behind the two joins of a round. -/
structure Pl (w wr : World) (now l : Con) (r : Nat × Nat) (g : Nat) (d1 d2 : Con) (m1 m2 B : Nat) (V : World) : Prop where
  bel : Below wr.heap.size wr V
  bn : Box V (w.heap.size + 1) now
  bl : Box V g l
  hl : LentC r now V l
  b1 : Box V m1 d1
  b2 : Box V m2 d2
  n1 : NewC B V d1
  n2 : NewC B V d2
theorem Pl.kept {w wr : World} {now l : Con} {r : Nat × Nat} {g : Nat} {d1 d2 : Con} {m1 m2 B : Nat} {V V' : World} (H : Pl w wr now l r g d1 d2 m1 m2 B V) (hb : Below V.heap.size V V') : Pl w wr now l r g d1 d2 m1 m2 B V' :=
  ⟨H.bel.trans (hb.mono H.bel.size), H.bn.kept hb, H.bl.kept hb, H.hl.kept hb, H.b1.kept hb, H.b2.kept hb, H.n1.kept hb, H.n2.kept hb⟩
/-- ... and behind the store into 'now'. -/
structure Qb (w : World) (now d1 d2 : Con) (m1 m2 B : Nat) (V : World) : Prop where
  bel : Below w.heap.size w V
  bn : Box V (w.heap.size + 1) now
  b1 : Box V m1 d1
  b2 : Box V m2 d2
  n1 : NewC B V d1
  n2 : NewC B V d2
theorem Qb.kept {w : World} {now d1 d2 : Con} {m1 m2 B : Nat} {V V' : World} (H : Qb w now d1 d2 m1 m2 B V) (hb : Below V.heap.size V V') : Qb w now d1 d2 m1 m2 B V' :=
  ⟨H.bel.trans (hb.mono H.bel.size), H.bn.kept hb, H.b1.kept hb, H.b2.kept hb, H.n1.kept hb, H.n2.kept hb⟩
set_option maxRecDepth 100000 in
set_option maxHeartbeats 8000000 in
theorem walk (c : Con) (X : Ens) (w : World) (hc : ConOk w c) (hX : EnsOk w X) : Calls Try.prog 3 #[c.agg, X.v] w fun r w' => r = .returned (.bool true) ∧ Below w.heap.size w w' := by
  have HC := Lib.hid hc
  have HX := Lib.hid hX
  have hmx := hX.mx
  clear hc hX
  unfold Con.agg Ens.v
  have HB0 := Lib.hid (((Below.refl w.heap.size w).alloc (Nat.le_refl _) (.cells #[.int .i64 c.num, .int .i64 c.kind, .int .i64 c.by', .int .i64 c.dl, .int .i64 c.to', .int .i64 c.want, .int .u64 c.price, .int .u64 c.reserve, .int .u64 c.step, .int .i64 c.of', .slice c.ea c.es.length c.ec] 25)).alloc (by simp) (.cells #[.int .i64 c.num, .int .i64 c.kind, .int .i64 c.by', .int .i64 c.dl, .int .i64 c.to', .int .i64 c.want, .int .u64 c.price, .int .u64 c.reserve, .int .u64 c.step, .int .i64 c.of', .slice c.ea c.es.length c.ec] 25))
  have HN0 := Lib.hid (show Box ((w.alloc (.cells #[.int .i64 c.num, .int .i64 c.kind, .int .i64 c.by', .int .i64 c.dl, .int .i64 c.to', .int .i64 c.want, .int .u64 c.price, .int .u64 c.reserve, .int .u64 c.step, .int .i64 c.of', .slice c.ea c.es.length c.ec] 25)).alloc (.cells #[.int .i64 c.num, .int .i64 c.kind, .int .i64 c.by', .int .i64 c.dl, .int .i64 c.to', .int .i64 c.want, .int .u64 c.price, .int .u64 c.reserve, .int .u64 c.step, .int .i64 c.of', .slice c.ea c.es.length c.ec] 25)) (w.heap.size + 1) c from alloc_at (by simp))
  go_enter Try.func3, Try.ntmps3
  go_wp2
  go_loopw [6, 7, 8, 9, 10, 11, 12, 13, 14, 15] (fun i x7 x8 x9 x10 x11 x12 x13 x14 x15 wr => ∃ (k : Nat) (now : Con) (y8 y12 : Value), y8 = x8 ∧ y12 = x12 ∧ k ≤ X.es.length ∧ i = .int .i64 k ∧ Below w.heap.size w wr ∧ Box wr (w.heap.size + 1) now ∧ ConOk wr now) (fun i _ _ _ _ _ _ _ _ _ _ => X.es.length - (intOf i).toNat)
  case atStart => exact ⟨0, c, _, _, rfl, rfl, by omega, rfl, HB0.out, HN0.out, HC.out.kept HB0.out⟩
  case round =>
    clear HB0 HN0
    obtain ⟨k, now, y8, y12, hy8, hy12, hk, rfl, hb, hbx, hok⟩ := hrel
    subst hy8 hy12
    have HB := Lib.hid hb
    have HBX := Lib.hid hbx
    have HOK := Lib.hid hok
    clear hb hbx hok
    by_cases hlt : k < X.es.length
    case neg =>
      have t0 : decide ((k : Int) < (X.es.length : Int)) = false := by simp; omega
      go_wp2
      go_ret
      exact ⟨rfl, HB.out⟩
    case pos =>
      have t0 : decide ((k : Int) < (X.es.length : Int)) = true := by simp; omega
      have HLT := Lib.hid hlt
      have HK9 := Lib.hid (lent_piece now wr HOK.out)
      unfold Con.agg at HK9
      obtain ⟨a0, a1, a2, a3, a4, a5, a6, a7, a8, a9, a10⟩ := (HBX.out).cells
      go_wp2_with fail
      refine HK9.out.mono ?_
      rintro r1 v1 ⟨l, rfl, hL, hb1⟩
      have HL := Lib.hid hL
      have HB1 := Lib.hid hb1
      clear hL hb1 HK9 a0 a1 a2 a3 a4 a5 a6 a7 a8 a9 a10
      go_wp2_with fail
      obtain ⟨V1, hV1⟩ : ∃ V, V = v1.alloc (.cells #[.int .i64 l.num, .int .i64 l.kind, .int .i64 l.by', .int .i64 l.dl, .int .i64 l.to', .int .i64 l.want, .int .u64 l.price, .int .u64 l.reserve, .int .u64 l.step, .int .i64 l.of', .slice l.ea l.es.length l.ec] 25) := ⟨_, rfl⟩
      have HA1 := Lib.hid (show Below v1.heap.size v1 V1 by rw [hV1]; exact (Below.refl _ _).alloc (Nat.le_refl _) _)
      have HBL := Lib.hid (show Box V1 v1.heap.size l by rw [hV1]; exact alloc_at rfl)
      have HZ1 := Lib.hid (show V1.heap.size = v1.heap.size + 1 by rw [hV1]; simp)
      have HV1 := Lib.hid (show Below wr.heap.size wr V1 from HB1.out.trans (HA1.out.mono HB1.out.size))
      rw [← hV1]
      clear hV1
      refine jreg6 rfl (by kernel_rfl) (by kernel_rfl) (by simp) v1.heap.size rfl l now HBL.out (HL.out.mark.ok.kept HA1.out) HL.out.d X ((HX.out.kept HB.out).kept HV1.out) k HLT.out rfl rfl ?_
      intro x V3 gm d1 ad1 cp1 hb2 hgm ex8 hm1 hN1 hd1 ex9 hG1 ex10 ex11
      simp only [putsF, List.foldl_cons, List.foldl_nil, Act.put, List.setIfInBounds_toArray, List.set_cons_zero, List.set_cons_succ, ex8, ex9, ex10, ex11]
      have HV3 := Lib.hid hb2
      have HGM := Lib.hid hgm
      have HM1 := Lib.hid hm1
      have HN1' := Lib.hid hN1
      have HD1 := Lib.hid hd1
      have HS1 := Lib.hid (own_sl hG1).2
      clear hb2 hgm hm1 hN1 hd1 hG1 ex8 ex9 ex10 ex11
      go_wp2
      refine jreg7 rfl (by kernel_rfl) (by kernel_rfl) (by simp) (w.heap.size + 1) rfl now now ((HBX.out.kept HV1.out).kept HV3.out) ((HOK.out.kept HV1.out).kept HV3.out) rfl rfl X (((HX.out.kept HB.out).kept HV1.out).kept HV3.out) k HLT.out rfl rfl ?_
      intro x V5 gm2 d2 ad2 cp2 hb2 hgm ex8 hm1 hN1 hd1 ex9 hG1 ex10 ex11
      simp only [putsF, List.foldl_cons, List.foldl_nil, Act.put, List.setIfInBounds_toArray, List.set_cons_zero, List.set_cons_succ, ex8, ex9, ex10, ex11]
      have HV5 := Lib.hid hb2
      have HGM2 := Lib.hid hgm
      have HM2 := Lib.hid hm1
      have HN2 := Lib.hid hN1
      have HD2 := Lib.hid hd1
      have HS2 := Lib.hid (own_sl hG1).2
      clear hb2 hgm hm1 hN1 hd1 hG1 ex8 ex9 ex10 ex11
      have HP := Lib.hid (show Pl w wr now l (wr.heap.size, v1.heap.size) v1.heap.size d1 d2 gm gm2 V1.heap.size V5 from
        ⟨HV1.out.trans ((HV3.out.trans (HV5.out.mono HV3.out.size)).mono HV1.out.size), ((HBX.out.kept HV1.out).kept HV3.out).kept HV5.out, (HBL.out.kept HV3.out).kept HV5.out, ((HL.out.kept HA1.out).kept HV3.out).kept HV5.out, HM1.out.kept HV5.out, HM2.out, HN1'.out.kept HV5.out, NewC.base HN2.out HV3.out.size⟩)
      have HS1 := Lib.hid (HS1.out.kept HV5.out)
      have HO := Lib.hid (show w.heap.size + 1 < wr.heap.size ∧ wr.heap.size ≤ v1.heap.size ∧ v1.heap.size < gm ∧ v1.heap.size < gm2 ∧ v1.heap.size < V1.heap.size from
        ⟨HBX.out.lt, HB1.out.size, by have := HGM.out; have := HZ1.out; omega, by have := HGM2.out; have := HZ1.out; have := HV3.out.size; omega, by have := HZ1.out; omega⟩)
      have HDD := Lib.hid (HD1.out.trans HD2.out.symm)
      clear HN2 HV5 HV3 HM1 HM2 HN1' HL HA1 HBL HV1 HZ1 HGM HGM2 HD1 HB1 HBX
      have HGL := Lib.hid (show (joinGs now X.es[k]).length ≤ 5864062014634 by have := joinGs_le now X.es[k]; omega)
      generalize joinGs now X.es[k] = jg at *
      generalize hjv : now.joinV' X.es[k] = jv at *
      have HJV := Lib.hid hjv
      clear hjv
      have hjj : (jv != jv) = false := by simp
      go_wp2_with fail
      refine (num_any jv V5).mono ?_
      rintro r2 v7 ⟨rfl, rfl⟩
      go_wp2_with fail
      refine (gifts_true ad1 ad2 cp1 cp2 jg _ HGL.out HS1.out HS2.out).mono ?_
      rintro r3 v8 ⟨rfl, hq8⟩
      have HP8 := Lib.hid (HP.out.kept (hq8.below _))
      clear hq8 HP HS1 HS2
      have HK15 := Lib.hid (sameCon_true d1 d2 v8 HP8.out.n1.ok HP8.out.n2.ok HDD.out)
      unfold Con.agg at HK15
      obtain ⟨a0, a1, a2, a3, a4, a5, a6, a7, a8, a9, a10⟩ := (HP8.out.b1).cells
      obtain ⟨b0, b1, b2, b3, b4, b5, b6, b7, b8, b9, b10⟩ := (HP8.out.b2).cells
      go_wp2_with fail
      refine HK15.out.mono ?_
      rintro r4 v9 ⟨rfl, hb9⟩
      have HP9 := Lib.hid (HP8.out.kept hb9)
      clear hb9 HP8 HK15 a0 a1 a2 a3 a4 a5 a6 a7 a8 a9 a10 b0 b1 b2 b3 b4 b5 b6 b7 b8 b9 b10
      have HK16 := Lib.hid (kept_piece (wr.heap.size, v1.heap.size) l now v9 HP9.out.hl (HOK.out.kept HP9.out.bel))
      unfold Con.agg at HK16
      obtain ⟨a0, a1, a2, a3, a4, a5, a6, a7, a8, a9, a10⟩ := (HP9.out.bl).cells
      obtain ⟨b0, b1, b2, b3, b4, b5, b6, b7, b8, b9, b10⟩ := (HP9.out.bn).cells
      go_wp2_with fail
      refine HK16.out.mono ?_
      rintro r5 u1 ⟨rfl, ho1⟩
      have HBE := Lib.hid (show Below wr.heap.size wr u1 from HP9.out.bel.trans (ho1.below HP9.out.bel.size (fun k hk => hk.1)))
      have HBN := Lib.hid (HP9.out.bn.only ho1 (fun hk => by have h1 := hk.1; have h2 := HO.out; simp only at h1; omega))
      have HM1 := Lib.hid (HP9.out.b1.only ho1 (fun hk => by have h1 := hk.2; have h2 := HO.out; simp only at h1; omega))
      have HM2 := Lib.hid (HP9.out.b2.only ho1 (fun hk => by have h1 := hk.2; have h2 := HO.out; simp only at h1; omega))
      have HN1 := Lib.hid (HP9.out.n1.only ho1 (fun k hk h => by have h1 := h.2; have h2 := HO.out; simp only at h1; omega))
      have HN2 := Lib.hid (HP9.out.n2.only ho1 (fun k hk h => by have h1 := h.2; have h2 := HO.out; simp only at h1; omega))
      clear ho1 HP9 HK16 a0 a1 a2 a3 a4 a5 a6 a7 a8 a9 a10 b0 b1 b2 b3 b4 b5 b6 b7 b8 b9 b10
      by_cases hj0 : jv = 0
      case neg =>
        have cj : (jv != 0) = true := by simpa using hj0
        clear hj0
        go_wp2
        go_roundw
        case rel => exact ⟨k + 1, now, _, _, rfl, rfl, by omega, by go_num, HB.out.trans (HBE.out.mono HB.out.size), HBN.out, HOK.out.kept HBE.out⟩
        case measure => simp [intOf]; omega
      case pos =>
        have cj : (jv != 0) = false := by simpa using hj0
        clear hj0
        obtain ⟨a0, a1, a2, a3, a4, a5, a6, a7, a8, a9, a10⟩ := (HM2.out).cells
        go_wp2_with ((with_reducible refine at_store_op ?_); refine wpList_store_lit 25 (w.heap.size + 1) 0 #[.int .i64 d2.num, .int .i64 d2.kind, .int .i64 d2.by', .int .i64 d2.dl, .int .i64 d2.to', .int .i64 d2.want, .int .u64 d2.price, .int .u64 d2.reserve, .int .u64 d2.step, .int .i64 d2.of', .slice d2.ea d2.es.length d2.ec] (.agg #[.int .i64 d2.num, .int .i64 d2.kind, .int .i64 d2.by', .int .i64 d2.dl, .int .i64 d2.to', .int .i64 d2.want, .int .u64 d2.price, .int .u64 d2.reserve, .int .u64 d2.step, .int .i64 d2.of', .slice d2.ea d2.es.length d2.ec]) HBN.out szC (Nat.le_of_ble_eq_true rfl) rfl rfl ?_ ?_ ?_; exact rfl; exact rfl; intro u2 hp3)
        have HQ := Lib.hid (show Qb w d2 d1 d2 gm gm2 V1.heap.size u2 from
          ⟨hp3.below (HB.out.trans (HBE.out.mono HB.out.size)) (HB.out.trans (HBE.out.mono HB.out.size)).size (by omega), hp3.at', hp3.row HM1.out (by have := HO.out; omega), hp3.row HM2.out (by have := HO.out; omega), NewC.only HN1.out hp3.only (fun k hk e => by have := HO.out; omega), NewC.only HN2.out hp3.only (fun k hk e => by have := HO.out; omega)⟩)
        clear hp3 HM1 HM2 HN1 HN2 HBN HBE a0 a1 a2 a3 a4 a5 a6 a7 a8 a9 a10
        have HE := Lib.hid (con_eq HDD.out)
        have HKa := Lib.hid (fun V (h : Qb w d2 d1 d2 gm gm2 V1.heap.size V) => end_any d1 V h.n1.ok)
        have HKb := Lib.hid (fun V (h : Qb w d2 d1 d2 gm gm2 V1.heap.size V) => rend_any d2 V h.n2.ok)
        have HKc := Lib.hid (fun V (h : Qb w d2 d1 d2 gm gm2 V1.heap.size V) => back_all d1 V h.n1.ok)
        have HKd := Lib.hid (fun V (h : Qb w d2 d1 d2 gm gm2 V1.heap.size V) => rback_all d2 V h.n2.ok)
        have HKe := Lib.hid (fun V (h : Qb w d2 d1 d2 gm gm2 V1.heap.size V) => sameCon_true d1 d2 V h.n1.ok h.n2.ok HDD.out)
        have HLE := Lib.hid (show (endL d2.kind d2.reserve (d2.es.map Ent.d)).length ≤ 5864062014634 by have := endL_le d2.kind d2.reserve (d2.es.map Ent.d); have := HQ.out.n2.mx; rw [List.length_map] at *; omega)
        have HLB := Lib.hid (show (backP (d2.es.map Ent.d) d2.es.length).length ≤ 5864062014634 by have := backP_le (d2.es.map Ent.d) d2.es.length; have := HQ.out.n2.mx; omega)
        have HLN := Lib.hid (show d1.es.length = d2.es.length by have := congrArg List.length HE.out.2.2.2.2.2.2.2.2; simpa using this)
        rw [HE.out.1, HE.out.2.2.2.2.2.1, HE.out.2.2.2.2.2.2.2.2] at HKa
        rw [HE.out.2.2.2.2.2.2.2.2, HLN.out] at HKc
        generalize endL d2.kind d2.reserve (d2.es.map Ent.d) = eL at *
        generalize backP (d2.es.map Ent.d) d2.es.length = bL at *
        unfold Con.agg at HKa HKb HKc HKd HKe
        obtain ⟨ax0, ax1, ax2, ax3, ax4, ax5, ax6, ax7, ax8, ax9, ax10⟩ := (HQ.out.b1).cells
        obtain ⟨ay0, ay1, ay2, ay3, ay4, ay5, ay6, ay7, ay8, ay9, ay10⟩ := (HQ.out.bn).cells
        obtain ⟨az0, az1, az2, az3, az4, az5, az6, az7, az8, az9, az10⟩ := (HQ.out.b2).cells
        go_wp2
        have hA0 : Qb w d2 d1 d2 gm gm2 V1.heap.size u2.drew := HQ.out.kept ((Qt.drewN u2 1).below _)
        go_region_held3 (fun V => V.cell? ⟨gm, 0, none⟩ = some (.int .i64 d1.num) ∧ V.cell? ⟨gm, 1, none⟩ = some (.int .i64 d1.kind) ∧ V.cell? ⟨gm, 2, none⟩ = some (.int .i64 d1.by') ∧ V.cell? ⟨gm, 3, none⟩ = some (.int .i64 d1.dl) ∧ V.cell? ⟨gm, 4, none⟩ = some (.int .i64 d1.to') ∧ V.cell? ⟨gm, 5, none⟩ = some (.int .i64 d1.want) ∧ V.cell? ⟨gm, 6, none⟩ = some (.int .u64 d1.price) ∧ V.cell? ⟨gm, 7, none⟩ = some (.int .u64 d1.reserve) ∧ V.cell? ⟨gm, 8, none⟩ = some (.int .u64 d1.step) ∧ V.cell? ⟨gm, 9, none⟩ = some (.int .i64 d1.of') ∧ V.cell? ⟨gm, 10, none⟩ = some (.slice d1.ea d1.es.length d1.ec) ∧ V.cell? ⟨w.heap.size + 1, 0, none⟩ = some (.int .i64 d2.num) ∧ V.cell? ⟨w.heap.size + 1, 1, none⟩ = some (.int .i64 d2.kind) ∧ V.cell? ⟨w.heap.size + 1, 2, none⟩ = some (.int .i64 d2.by') ∧ V.cell? ⟨w.heap.size + 1, 3, none⟩ = some (.int .i64 d2.dl) ∧ V.cell? ⟨w.heap.size + 1, 4, none⟩ = some (.int .i64 d2.to') ∧ V.cell? ⟨w.heap.size + 1, 5, none⟩ = some (.int .i64 d2.want) ∧ V.cell? ⟨w.heap.size + 1, 6, none⟩ = some (.int .u64 d2.price) ∧ V.cell? ⟨w.heap.size + 1, 7, none⟩ = some (.int .u64 d2.reserve) ∧ V.cell? ⟨w.heap.size + 1, 8, none⟩ = some (.int .u64 d2.step) ∧ V.cell? ⟨w.heap.size + 1, 9, none⟩ = some (.int .i64 d2.of') ∧ V.cell? ⟨w.heap.size + 1, 10, none⟩ = some (.slice d2.ea d2.es.length d2.ec) ∧ V.cell? ⟨gm2, 0, none⟩ = some (.int .i64 d2.num) ∧ V.cell? ⟨gm2, 1, none⟩ = some (.int .i64 d2.kind) ∧ V.cell? ⟨gm2, 2, none⟩ = some (.int .i64 d2.by') ∧ V.cell? ⟨gm2, 3, none⟩ = some (.int .i64 d2.dl) ∧ V.cell? ⟨gm2, 4, none⟩ = some (.int .i64 d2.to') ∧ V.cell? ⟨gm2, 5, none⟩ = some (.int .i64 d2.want) ∧ V.cell? ⟨gm2, 6, none⟩ = some (.int .u64 d2.price) ∧ V.cell? ⟨gm2, 7, none⟩ = some (.int .u64 d2.reserve) ∧ V.cell? ⟨gm2, 8, none⟩ = some (.int .u64 d2.step) ∧ V.cell? ⟨gm2, 9, none⟩ = some (.int .i64 d2.of') ∧ V.cell? ⟨gm2, 10, none⟩ = some (.slice d2.ea d2.es.length d2.ec)) (go_keep)
          ((first
            | (go_at_call 17; (with_reducible refine (HKa.out _ hA0).mono ?_); rintro s4 y4 ⟨⟨a4, c4, rfl, ho4⟩, hb4⟩; have hA4 := hA0.kept hb4; obtain ⟨fx0, fx1, fx2, fx3, fx4, fx5, fx6, fx7, fx8, fx9, fx10⟩ := (hA4.b1).cells; obtain ⟨fy0, fy1, fy2, fy3, fy4, fy5, fy6, fy7, fy8, fy9, fy10⟩ := (hA4.bn).cells; obtain ⟨fz0, fz1, fz2, fz3, fz4, fz5, fz6, fz7, fz8, fz9, fz10⟩ := (hA4.b2).cells)
            | (go_at_call 18; (with_reducible refine (HKb.out _ hA4).mono ?_); rintro s5 y5 ⟨⟨a5, c5, rfl, ho5⟩, hb5⟩; have hA5 := hA4.kept hb5; have hs4 := (own_sl (owns_below (B := 0) ho4 hb5)).2; have hs5 := (own_sl ho5).2; obtain ⟨gx0, gx1, gx2, gx3, gx4, gx5, gx6, gx7, gx8, gx9, gx10⟩ := (hA5.b1).cells; obtain ⟨gy0, gy1, gy2, gy3, gy4, gy5, gy6, gy7, gy8, gy9, gy10⟩ := (hA5.bn).cells; obtain ⟨gz0, gz1, gz2, gz3, gz4, gz5, gz6, gz7, gz8, gz9, gz10⟩ := (hA5.b2).cells)
            | (go_at_call 14; (with_reducible refine (gifts_true a4 a5 c4 c5 eL _ HLE.out hs4 hs5).mono ?_); rintro s6 y6 ⟨rfl, hq6⟩; have hA6 := hA5.kept (hq6.below _); obtain ⟨hx0, hx1, hx2, hx3, hx4, hx5, hx6, hx7, hx8, hx9, hx10⟩ := (hA6.b1).cells; obtain ⟨hy0, hy1, hy2, hy3, hy4, hy5, hy6, hy7, hy8, hy9, hy10⟩ := (hA6.bn).cells; obtain ⟨hz0, hz1, hz2, hz3, hz4, hz5, hz6, hz7, hz8, hz9, hz10⟩ := (hA6.b2).cells)
            | (go_at_call 19; (with_reducible refine (HKc.out _ hA6).mono ?_); rintro s7 y7 ⟨⟨a7, c7, rfl, ho7⟩, hb7⟩; have hA7 := hA6.kept hb7; obtain ⟨ix0, ix1, ix2, ix3, ix4, ix5, ix6, ix7, ix8, ix9, ix10⟩ := (hA7.b1).cells; obtain ⟨iy0, iy1, iy2, iy3, iy4, iy5, iy6, iy7, iy8, iy9, iy10⟩ := (hA7.bn).cells; obtain ⟨iz0, iz1, iz2, iz3, iz4, iz5, iz6, iz7, iz8, iz9, iz10⟩ := (hA7.b2).cells)
            | (go_at_call 20; (with_reducible refine (HKd.out _ hA7).mono ?_); rintro s8 y8 ⟨⟨a8, c8, rfl, ho8⟩, hb8⟩; have hA8 := hA7.kept hb8; have hs7 := (own_sl (owns_below (B := 0) ho7 hb8)).2; have hs8 := (own_sl ho8).2; obtain ⟨jx0, jx1, jx2, jx3, jx4, jx5, jx6, jx7, jx8, jx9, jx10⟩ := (hA8.b1).cells; obtain ⟨jy0, jy1, jy2, jy3, jy4, jy5, jy6, jy7, jy8, jy9, jy10⟩ := (hA8.bn).cells; obtain ⟨jz0, jz1, jz2, jz3, jz4, jz5, jz6, jz7, jz8, jz9, jz10⟩ := (hA8.b2).cells)
            | (go_at_call 14; (with_reducible refine (gifts_true a7 a8 c7 c8 bL _ HLB.out hs7 hs8).mono ?_); rintro s9 y9 ⟨rfl, hq9⟩; have hA9 := hA8.kept (hq9.below _); obtain ⟨kx0, kx1, kx2, kx3, kx4, kx5, kx6, kx7, kx8, kx9, kx10⟩ := (hA9.b1).cells; obtain ⟨ky0, ky1, ky2, ky3, ky4, ky5, ky6, ky7, ky8, ky9, ky10⟩ := (hA9.bn).cells; obtain ⟨kz0, kz1, kz2, kz3, kz4, kz5, kz6, kz7, kz8, kz9, kz10⟩ := (hA9.b2).cells)
            | (go_at_call 15; (with_reducible refine (HKe.out _ hA9).mono ?_); rintro s10 y10 ⟨rfl, hb10⟩; have hA10 := hA9.kept hb10; obtain ⟨mx0, mx1, mx2, mx3, mx4, mx5, mx6, mx7, mx8, mx9, mx10⟩ := (hA10.b1).cells; obtain ⟨my0, my1, my2, my3, my4, my5, my6, my7, my8, my9, my10⟩ := (hA10.bn).cells; obtain ⟨mz0, mz1, mz2, mz3, mz4, mz5, mz6, mz7, mz8, mz9, mz10⟩ := (hA10.b2).cells)))
        have HF := Lib.hid hA10
        clear hA0 hA4 hA5 hA6 hA7 hA8 hA9 hA10 hb4 hb5 hb7 hb8 hb10 hq6 hq9 ho4 ho5 ho7 ho8 hs4 hs5 hs7 hs8 HKa HKb HKc HKd HKe HLE HLB ax0 ax1 ax2 ax3 ax4 ax5 ax6 ax7 ax8 ax9 ax10 ay0 ay1 ay2 ay3 ay4 ay5 ay6 ay7 ay8 ay9 ay10 az0 az1 az2 az3 az4 az5 az6 az7 az8 az9 az10 fx0 fx1 fx2 fx3 fx4 fx5 fx6 fx7 fx8 fx9 fx10 fy0 fy1 fy2 fy3 fy4 fy5 fy6 fy7 fy8 fy9 fy10 fz0 fz1 fz2 fz3 fz4 fz5 fz6 fz7 fz8 fz9 fz10 gx0 gx1 gx2 gx3 gx4 gx5 gx6 gx7 gx8 gx9 gx10 gy0 gy1 gy2 gy3 gy4 gy5 gy6 gy7 gy8 gy9 gy10 gz0 gz1 gz2 gz3 gz4 gz5 gz6 gz7 gz8 gz9 gz10 hx0 hx1 hx2 hx3 hx4 hx5 hx6 hx7 hx8 hx9 hx10 hy0 hy1 hy2 hy3 hy4 hy5 hy6 hy7 hy8 hy9 hy10 hz0 hz1 hz2 hz3 hz4 hz5 hz6 hz7 hz8 hz9 hz10 ix0 ix1 ix2 ix3 ix4 ix5 ix6 ix7 ix8 ix9 ix10 iy0 iy1 iy2 iy3 iy4 iy5 iy6 iy7 iy8 iy9 iy10 iz0 iz1 iz2 iz3 iz4 iz5 iz6 iz7 iz8 iz9 iz10 jx0 jx1 jx2 jx3 jx4 jx5 jx6 jx7 jx8 jx9 jx10 jy0 jy1 jy2 jy3 jy4 jy5 jy6 jy7 jy8 jy9 jy10 jz0 jz1 jz2 jz3 jz4 jz5 jz6 jz7 jz8 jz9 jz10 kx0 kx1 kx2 kx3 kx4 kx5 kx6 kx7 kx8 kx9 kx10 ky0 ky1 ky2 ky3 ky4 ky5 ky6 ky7 ky8 ky9 ky10 kz0 kz1 kz2 kz3 kz4 kz5 kz6 kz7 kz8 kz9 kz10 mx0 mx1 mx2 mx3 mx4 mx5 mx6 mx7 mx8 mx9 mx10 my0 my1 my2 my3 my4 my5 my6 my7 my8 my9 my10 mz0 mz1 mz2 mz3 mz4 mz5 mz6 mz7 mz8 mz9 mz10
        go_wp2
        go_roundw
        case rel => exact ⟨k + 1, d2, _, _, rfl, rfl, by omega, by go_num, HF.out.bel, HF.out.bn, HF.out.n2.ok⟩
        case measure => simp [intOf]; omega
theorem own : ownKnob Try.prog.godebug = none := by kernel_rfl
theorem laidOut : laidOutB Try.prog = true := by kernel_rfl
set_option maxRecDepth 100000 in
theorem lifted (os : Os) (started : os.Started) (H : Type) (enc : TypeId × Value → H) :
    ReturnsInHanded {} Try.checked os 3 .any (Rows.auctionPlaysSpec.pre6 enc Try.prog Try.f3 Rows.auctionPlaysRow.domain false) (Rows.auctionPlaysSpec.post enc Try.prog Try.f3 false true false false) := by
  refine returnsInHanded_of_change_sized (C := Try.checked) own started (by kernel_rfl) Try.func3
    (ChangeSpec.witness6 (enc := enc) (C := Try.checked) false ⟨#[], #[.agg #[.int .i64 0, .int .i64 0, .int .i64 0, .int .i64 0, .int .i64 0, .int .i64 0, .int .u64 0, .int .u64 0, .int .u64 0, .int .i64 0, .slice none 0 0], .slice none 0 0], []⟩ 8 (by kernel_rfl) (by kernel_rfl) (by kernel_rfl) (by kernel_rfl)) ?_
  intro W base args ds gs before hval0 hW hcnd hsz0 _
  have hsz : (DataW.weightsEach Try.prog (Try.f3.params.toList ++ Rows.auctionPlaysSpec.plain.varTypes Try.prog) (ds ++ gs)).all (· ≤ reachBytes) = true := hsz0
  clear hsz0
  have hval : ∀ (j : Nat) t v, Try.f3.params[j]? = some t → args[j]? = some v → Value.okWide Try.prog W .any base t v := hval0
  have hW' := hW
  obtain ⟨p, q, hA0, hV, rfl, hfz, hnd⟩ := hW
  have hA : DataW.TrodAll enc Try.prog W 0 (fun _ => true) true Try.f3.params.toList args.toList ds p := hA0
  rw [Try.params3] at hA hval hsz
  obtain ⟨v0, vs0, d0, ds0, p0, q0, hargs, rfl, rfl, h0, r0⟩ := trodAll_cons hA
  obtain ⟨v1, vs1, d1, ds1, p1, q1, rfl, rfl, rfl, h1, r1⟩ := trodAll_cons r0
  obtain ⟨rfl, rfl, rfl⟩ := trodAll_nil r1
  obtain rfl : args = #[v0, v1] := by cases args; simp_all
  obtain ⟨rfl, rfl⟩ := trodVars_none hV
  have k0 := h0
  have lt0 : ∀ x ∈ p0, x.block < W.heap.size := by obtain ⟨m, hm⟩ := k0; exact DataW.trod_lt m _ _ _ hm
  obtain ⟨c0, rfl, n0⟩ := open_con (hval 0 25 v0 rfl rfl) h0 hsz (j := 0) rfl rfl
  have k1 := h1
  have lt1 : ∀ x ∈ p1, x.block < W.heap.size := by obtain ⟨m, hm⟩ := k1; exact DataW.trod_lt m _ _ _ hm
  obtain ⟨c1, rfl, n1⟩ := open_ens (hval 1 23 v1 rfl rfl) h1 hsz (j := 1) rfl rfl
  clear hA0 hval0
  refine (walk c0 c1 W n0 n1).mono fun e W' ⟨he, bel⟩ => ?_
  subst he
  exact ⟨_, rfl, _, _, _, [], _, [], hW', trodAll_mk1 (shut_bool Try.underlying4 _), (trodAll_cons_mk (Below.trod laidOut (by kernel_rfl) (of_decide_eq_true (by kernel_rfl)) k0 bel lt0) (trodAll_cons_mk (Below.trod laidOut (by kernel_rfl) (of_decide_eq_true (by kernel_rfl)) k1 bel lt1) trodAll_mk0)), rfl, bel.frame _, fun h => by cases h⟩
theorem over : Rows.auctionPlaysRow.holds Try.pinned (OpenSpec.ofChange Rows.auctionPlaysSpec) :=
  OpenClaim.holds_of_wide 3 Try.f3 rfl rfl rfl rfl rfl rfl rfl ⟨rfl, rfl, rfl, rfl, rfl⟩ rfl rfl rfl rfl rfl (by kernel_rfl) Try.func3 (by kernel_rfl)
    (of_decide_eq_true (by kernel_rfl)) (by unfold Func.isWrapper; first | (rw [if_pos (by decide +kernel)]; kernel_rfl) | (rw [if_neg (by decide +kernel)]; exact ⟨rfl, rfl⟩))
    (fun os started H enc _ => lifted os started H enc)
theorem proved : Rows.AuctionPlaysSaid := over
#print axioms proved
end Go.Proofs.Ytpejcndfplbikaa.lawAuctionPlays
