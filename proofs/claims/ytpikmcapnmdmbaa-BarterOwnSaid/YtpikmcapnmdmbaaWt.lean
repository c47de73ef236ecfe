/-
  Layer 22, the reference: points, cycle, turned.
-/
import Derived.Test.YtpikmcapnmdmbaaWr
namespace Go.Proofs.Ytpikmcapnmdmbaa
open Go.RowKit Go.K Go.Maps
set_option linter.unusedVariables false
set_option linter.unusedSimpArgs false
/-- Lists of entries as they lie. -/
def Lists (W : World) (a : Option Addr) (os : List (List Nat)) : Prop :=
  ∀ t (ht : t < os.length), ∃ ga g k, a = some ⟨ga, 0, none⟩ ∧ W.cell? ⟨ga, t, none⟩ = some (.slice (some ⟨g, 0, none⟩) os[t].length k) ∧ ∀ j, j < os[t].length → W.cell? ⟨g, j, none⟩ = some (.int .i64 ((os[t].getD j 0 : Nat) : Int))
theorem Lists.below {W W' : World} {a : Option Addr} {os : List (List Nat)} (h : Lists W a os) (hb : Below W.heap.size W W') : Lists W' a os := by
  intro t ht
  obtain ⟨ga, g, k, h1, h2, h3⟩ := h t ht
  exact ⟨ga, g, k, h1, below_cell hb h2, fun j hj => below_cell hb (h3 j hj)⟩
/-- One of a list, as the walk meets it. -/
def cg (c : List Nat) (k : Nat) : Nat := c.getD k 0
theorem tmod_nat (a b : Nat) : Int.tmod (a : Int) (b : Int) = ((a % b : Nat) : Int) := (Int.ofNat_tmod a b).symm
set_option maxRecDepth 100000 in
set_option maxHeartbeats 1000000 in
theorem points_two (g k go n : Nat) (o l1 l2 : List Nat) (p : Nat) (D : Nat → Bool) (w : World) (ho : o = l1 ++ p :: l2) (hl : o.length ≤ 1000000) (hn : n ≤ 1000000) (hlt : ∀ a ∈ o, a < n) (hD1 : ∀ a ∈ l1, D a = true) (hDp : D p = false)
    (hz : ∀ j, j < o.length → w.cell? ⟨g, j, none⟩ = some (.int .i64 ((o.getD j 0 : Nat) : Int))) (hgo : ∀ i, i < n → w.cell? ⟨go, i, none⟩ = some (.bool (D i))) :
    Calls Try.prog 62 #[.slice (some ⟨g, 0, none⟩) o.length k, .slice (some ⟨go, 0, none⟩) n n] w fun r w' => r = .returned (.int .i64 (p : Int)) ∧ w' = w := by
  have hlen : o.length = l1.length + 1 + l2.length := by rw [ho]; simp; omega
  have h1 : ∀ q, q < l1.length → D (o.getD q 0) = true := fun q hq => by
    rw [ho, List.getD_eq_getElem?_getD, List.getElem?_append_left hq, ← List.getD_eq_getElem?_getD]
    exact hD1 _ (getD_mem hq)
  have h2 : o.getD l1.length 0 = p := by
    rw [ho, List.getD_eq_getElem?_getD, List.getElem?_append_right (Nat.le_refl _), Nat.sub_self]; rfl
  have H1 := Lib.hid h1
  have H2 := Lib.hid h2
  have HZ := Lib.hid hz
  have HG := Lib.hid hgo
  have HLT := Lib.hid hlt
  have HDP := Lib.hid hDp
  clear h1 h2 hz hgo hlt hDp ho hD1
  go_enter Try.func62, Try.ntmps62
  go_wp2
  go_loopw [5] (fun i wr => ∃ q : Nat, q ≤ l1.length ∧ i = .int .i64 q ∧ w = wr) (fun i _ => o.length - (intOf i).toNat)
  case atStart => exact ⟨0, by omega, rfl, rfl⟩
  case round =>
    obtain ⟨q, hq, rfl, hwr⟩ := hrel
    subst hwr
    have hqo : q < o.length := by omega
    have t0 : decide ((q : Int) < (o.length : Int)) = true := by simp; omega
    have i0 : (q : Int) < (o.length : Int) := by omega
    have z0 := HZ.out q hqo
    have hjn := HLT.out _ (getD_mem hqo)
    have z1 := HG.out _ hjn
    have i1 : ((o.getD q 0 : Nat) : Int) < (n : Int) := by omega
    clear hlen
    by_cases hlt : q < l1.length
    · rw [H1.out q hlt] at z1
      generalize o.getD q 0 = j at z0 z1 i1 hjn
      go_wp2
      go_roundw
      case rel => exact ⟨q + 1, by omega, by go_num, by trivial⟩
      case measure => simp [intOf]; omega
    · have hqe : q = l1.length := by omega
      rw [hqe, H2.out] at z1 i1
      rw [hqe, H2.out] at z0
      subst hqe
      rw [HDP.out] at z1
      go_wp2
      go_ret
      exact ⟨rfl, rfl⟩
theorem nLeft_push {n : Nat} {l : List Nat} {x : Nat} (hx : x < n) (hn : x ∉ l) : nLeft n (memB (l ++ [x])) + 1 ≤ nLeft n (memB l) := by
  refine countP_lt (x := x) (fun i _ hi => ?_) (List.mem_range.2 hx) ?_ ?_
  · have h1 : memB (l ++ [x]) i = false := by simpa using hi
    unfold memB at h1 ⊢
    have h2 := of_decide_eq_false h1
    rw [decide_eq_false (fun h => h2 (List.mem_append_left _ h))]; rfl
  · show (!memB l x) = true
    unfold memB; rw [decide_eq_false hn]; rfl
  · show (!memB (l ++ [x]) x) = false
    unfold memB; rw [decide_eq_true (List.mem_append_right _ (List.mem_singleton.2 rfl))]; rfl
theorem ord_short {is l : List Int} {i : Nat} (hi : i < is.length) : (ord is l i).length ≤ is.length + 1 := by
  unfold ord
  rw [List.length_append, List.length_singleton]
  have := nodup_le is.length (ordAcc is i l []) (ordAcc_nd List.nodup_nil) (fun a ha => ord_lt (l := l) hi a (List.mem_append_left _ ha))
  omega
set_option maxRecDepth 100000 in
set_option maxHeartbeats 2000000 in
theorem cycle_two (oa : Option Addr) (oc go : Nat) (is : List Int) (ws : List (List Int)) (os : List (List Nat)) (D : Nat → Bool) (w : World) (hn : is.length ≤ 900000) (hnd : is.Nodup) (hos : os.length = is.length)
    (ho : ∀ i (h : i < os.length), os[i] = ord is (ws.getD i []) i) (hL : Lists w oa os) (hg : ∀ i, i < is.length → w.cell? ⟨go, i, none⟩ = some (.bool (D i))) :
    Calls Try.prog 53 #[.slice oa is.length oc, .slice (some ⟨go, 0, none⟩) is.length is.length] w fun r w' => (((∀ i, i < is.length → D i = true) ∧ r = .returned (.slice none 0 0)) ∨
      ∃ (s p : Nat) (l c : List Nat) (g k : Nat), c = l.drop p ∧ Way is.length (pts is ws D) D s l ∧ p < l.length ∧ pts is ws D (l.getD (l.length - 1) 0) = l.getD p 0 ∧ (∀ j, j < s → D j = true) ∧
        r = .returned (.slice (some ⟨g, 0, none⟩) c.length k) ∧ w'.ownsRow w.heap.size 3 1 (.slice (some ⟨g, 0, none⟩) c.length k) c.length (vN c)) ∧ Below w.heap.size w w' := by
  have HP := Lib.hid (show ∀ i, i < is.length → D i = false → ∃ ga g k m, oa = some ⟨ga, 0, none⟩ ∧ ∀ V, Below w.heap.size w V → V.cell? ⟨ga, i, none⟩ = some (.slice (some ⟨g, 0, none⟩) m k) ∧
      Calls Try.prog 62 #[.slice (some ⟨g, 0, none⟩) m k, .slice (some ⟨go, 0, none⟩) is.length is.length] V fun r w' => r = .returned (.int .i64 ((pts is ws D i : Nat) : Int)) ∧ w' = V from fun i hi hd => by
    obtain ⟨ga, g, k, h1, h2, h3⟩ := hL i (by omega)
    refine ⟨ga, g, k, os[i].length, h1, fun V hb => ⟨(hb.cell (p := ⟨ga, i, none⟩) (World.block_lt_of_cell? w _ h2)).trans h2, ?_⟩⟩
    obtain ⟨l1, l2, e1, e2⟩ := pts_split (ws := ws) hnd hd
    have ho' := ho i (by omega)
    refine points_two g k go is.length os[i] l1 l2 _ D V (by rw [ho']; exact e1) (by rw [ho']; exact Nat.le_trans (ord_short hi) (by omega)) (by omega) (by rw [ho']; exact ord_lt hi) e2 (pts_left hi hd).2 (fun j hj => (hb.cell (p := ⟨g, j, none⟩) (World.block_lt_of_cell? w _ (h3 j hj))).trans (h3 j hj)) (fun j hj => (hb.cell (p := ⟨go, j, none⟩) (World.block_lt_of_cell? w _ (hg j hj))).trans (hg j hj)))
  have HL := Lib.hid (show ∀ i, i < is.length → D i = false → pts is ws D i < is.length ∧ D (pts is ws D i) = false from fun i hi hd => pts_left hi hd)
  have HG := Lib.hid hg
  have hm69 := make69 is.length (by omega)
  obtain ⟨f, hf⟩ : ∃ f, f = pts is ws D := ⟨_, rfl⟩
  rw [← hf] at HP HL ⊢
  clear hf hL hg ho hos
  go_enter Try.func53, Try.ntmps53
  go_wp2
  go_loopw [5] (fun at' wr => ∃ k : Nat, k ≤ is.length ∧ at' = .int .i64 k ∧ (∀ j, j < k → D j = true) ∧ w = wr) (fun at' _ => is.length - (intOf at').toNat)
  case atStart => exact ⟨0, by omega, rfl, fun j hj => absurd hj (Nat.not_lt_zero j), rfl⟩
  case round =>
    obtain ⟨s, hs, rfl, hdone, hwr⟩ := hrel
    subst hwr
    have HDN := Lib.hid hdone
    clear hdone
    by_cases hlt : s < is.length
    · have t0 : decide ((s : Int) < (is.length : Int)) = true := by simp; omega
      have i0 : (s : Int) < (is.length : Int) := by omega
      have z0 := HG.out s hlt
      by_cases hd : D s = true
      · rw [hd] at z0
        have HDN2 := Lib.hid (show ∀ j, j < s + 1 → D j = true from fun j hj => by
          by_cases e : j = s
          · rw [e]; exact hd
          · exact HDN.out j (by omega))
        clear hd
        go_wp2
        go_roundw
        case rel => exact ⟨s + 1, by omega, by go_num, HDN2.out, by trivial⟩
        case measure => simp [intOf]; omega
      · have hd' : D s = false := by simpa using hd
        rw [hd'] at z0
        have HDS := Lib.hid hd'
        have t1 : ((s : Int) == (is.length : Int)) = false := beq_eq_false_iff_ne.2 (by omega)
        have hne : ¬ s = is.length := by omega
        clear hd hd'
        go_wp2
        clear t0 t1 z0 hne hm69
        go_loopw [5] (fun at' wr => ∃ (l : List Nat) (x : Nat), at' = .int .i64 x ∧ Way is.length f D s l ∧ (l.length = 0 → x = s) ∧ (0 < l.length → f (l.getD (l.length - 1) 0) = x) ∧ x < is.length ∧ D x = false ∧
            wr.heap[w.heap.size]? = some (.cells (tabB is.length (memB l)) 4 (0, 0)) ∧ Below w.heap.size w wr) (fun _ wr => leftOf wr w.heap.size)
        case atStart =>
          refine ⟨[], s, rfl, Way.nil _ _ _ _, fun _ => rfl, fun h => absurd h (Nat.lt_irrefl 0), hlt, HDS.out, ?_, (Below.refl _ _).alloc (Nat.le_refl _) _⟩
          have e : memB [] = fun _ => false := by funext j; simp [memB]
          rw [e]
          exact alloc_at rfl
        case round =>
          obtain ⟨l, x, rfl, hway, hx0, hx1, hxn, hdx, hrow, hb⟩ := hrel
          have HW := Lib.hid hway
          have HX0 := Lib.hid hx0
          have HX1 := Lib.hid hx1
          have HROW := Lib.hid hrow
          have HB := Lib.hid hb
          have HDX := Lib.hid hdx
          have z0 := tabB_cell hrow x hxn
          have i1 : (x : Int) < (is.length : Int) := by omega
          obtain ⟨ga, gl, kl, ml, hoa, hcall⟩ := HP.out x hxn hdx
          have HPX := Lib.hid hcall
          subst hoa
          clear hway hx0 hx1 hrow hb hdx hcall
          by_cases hin : x ∈ l
          · rw [show memB l x = true from decide_eq_true hin] at z0
            obtain ⟨p, hp, hpx⟩ := mem_getD hin
            have HPE := Lib.hid (show f (l.getD (l.length - 1) 0) = l.getD p 0 by rw [HX1.out (by omega), hpx])
            have HPL := Lib.hid hp
            have HRING := Lib.hid (HW.out.ring hp HPE.out)
            obtain ⟨c, hc⟩ : ∃ c, c = l.drop p := ⟨_, rfl⟩
            have hxc : x = c.getD 0 0 := by rw [hc, ← hpx]; simp [List.getD_eq_getElem?_getD, List.getElem?_drop]
            rw [← hc] at HRING
            have HC := Lib.hid hc
            have hc0 := HRING.out.pos
            have hcm : c.length ≤ is.length := nodup_le _ _ HRING.out.nd HRING.out.lt
            have HXC := Lib.hid hxc
            clear hp hpx hin hc hxc
            obtain ⟨w1, hw1⟩ : ∃ W, W = wr := ⟨_, rfl⟩
            subst hw1
            go_wp2
            clear z0
            go_loopw [5, 7] (fun at' v wq => ∃ (q : Nat) (v' : Value), v' = v ∧ q ≤ c.length ∧ at' = .int .i64 ((cg c (q % c.length) : Nat) : Int) ∧ wq.ownsRow w.heap.size 3 1 v' q (vN (c.take q)) ∧ Below w.heap.size w wq) (fun _ v _ => c.length - lenOf v)
            case atStart => exact ⟨0, _, rfl, by omega, by rw [Nat.zero_mod, HXC.out]; rfl, World.ownsRow_nil _ _ _ _, HB.out⟩
            case round =>
              obtain ⟨q, v, hv, hq, rfl, ho, hb⟩ := hrel
              subst hv
              have HO := Lib.hid ho
              have HBQ := Lib.hid hb
              clear ho hb
              obtain ⟨va, vc, rfl, _, _, hvs, _⟩ := owns_len HO.out
              have HVS := Lib.hid hvs
              clear hvs
              by_cases hql : q < c.length
              · have hqm : q % c.length = q := Nat.mod_eq_of_lt hql
                rw [hqm]
                have hmem := getD_mem hql
                have hcn : cg c q < is.length := HRING.out.lt _ hmem
                have hnx : f (cg c q) = cg c ((q + 1) % c.length) := HRING.out.nxt q hql
                obtain ⟨ga2, gl2, kl2, ml2, hoa2, hcall2⟩ := HP.out (cg c q) hcn (HRING.out.left _ hmem)
                obtain rfl : ga2 = ga := by injection hoa2 with h1; injection h1 with h1; exact h1.symm
                rw [hnx] at hcall2
                have HCL := Lib.hid hcall2
                have i2 : ((cg c q : Nat) : Int) < (is.length : Int) := by omega
                have h64 : q + 1 ≤ maxLen := by unfold maxLen; omega
                have hbz : (q + 1) * 8 ≤ 140737488355328 := by omega
                have hbs : w.heap.size ≤ (wr.alloc (.cells #[.int .i64 ((cg c q : Nat) : Int)] 3)).heap.size := (HBQ.out.alloc HBQ.out.size _).size
                have HTK := Lib.hid (show c.take (q + 1) = c.take q ++ [cg c q] by unfold cg; rw [List.take_succ_eq_append_getElem hql, List.getD_eq_getElem?_getD, List.getElem?_eq_getElem hql]; rfl)
                have HNE := Lib.hid (show 0 < q → cg c q ≠ x from fun h e => by rw [HXC.out] at e; have := getD_inj HRING.out.nd hql hc0 e; omega)
                clear hqm hoa2 hcall2 hnx hmem
                by_cases hq0 : q = 0
                · subst hq0
                  have t0 : (((0 : Nat) : Int) == 0) = true := rfl
                  have hcn' : cg c 0 < is.length := hcn
                  clear hcn
                  generalize hcq : cg c 0 = cq at HTK hbs i2 HCL hcn' ⊢
                  clear hcq
                  go_wp2_with (at_builtin; refine wpList_append_sl rfl _ _ 22 rfl w.heap.size 3 (.int .i64 0) 1 8 Try.underlying22 infoI (by rfl) (by decide) (.slice va 0 vc) 0 (vN (c.take 0)) (by rfl) (HO.out.alloc _) (some ⟨wr.heap.size, 0, none⟩) 1 1 (vN [cq]) (by rfl) (fun h => by cases h) (by rfl) (sl_new _ _ _ _) (oneCell_vN _) h64 hbz hbs ?c1)
                  intro v2 w2 ho2 hg2
                  have HO2 := Lib.hid ho2
                  have HB2 := Lib.hid ((HBQ.out.alloc HBQ.out.size (.cells #[.int .i64 (cq : Int)] 3)).grown hg2 hbs (fun k hk => (HO.out.lt k hk).1))
                  clear ho2 hg2
                  have z1 := (HCL.out w2 HB2.out).1
                  have K62 := Lib.hid (HCL.out w2 HB2.out).2
                  go_wp2_with fail
                  refine K62.out.mono ?_
                  rintro r0 w3 ⟨rfl, rfl⟩
                  obtain ⟨a2, c2, rfl, _, _, _, _⟩ := owns_len HO2.out
                  go_wp2
                  go_roundw
                  case rel => exact ⟨0 + 1, _, rfl, by omega, rfl, by rw [HTK.out, vN_append]; exact HO2.out, HB2.out⟩
                  case measure => simp [lenOf]; omega
                · have t0 : ((q : Int) == 0) = false := beq_eq_false_iff_ne.2 (by omega)
                  have t1 : ((((cg c q : Nat) : Int)) != ((x : Nat) : Int)) = true := by
                    rw [bne_iff_ne]; exact fun e => HNE.out (by omega) (by omega)
                  have hcn' : cg c q < is.length := hcn
                  clear hcn
                  generalize hcq : cg c q = cq at HTK hbs i2 HCL hcn' t1 ⊢
                  clear hcq
                  go_wp2_with (at_builtin; refine wpList_append_sl rfl _ _ 22 rfl w.heap.size 3 (.int .i64 0) 1 8 Try.underlying22 infoI (by rfl) (by decide) (.slice va q vc) q (vN (c.take q)) (by rfl) (HO.out.alloc _) (some ⟨wr.heap.size, 0, none⟩) 1 1 (vN [cq]) (by rfl) (fun h => by cases h) (by rfl) (sl_new _ _ _ _) (oneCell_vN _) h64 hbz hbs ?c2)
                  intro v2 w2 ho2 hg2
                  have HO2 := Lib.hid ho2
                  have HB2 := Lib.hid ((HBQ.out.alloc HBQ.out.size (.cells #[.int .i64 (cq : Int)] 3)).grown hg2 hbs (fun k hk => (HO.out.lt k hk).1))
                  clear ho2 hg2
                  have z1 := (HCL.out w2 HB2.out).1
                  have K62 := Lib.hid (HCL.out w2 HB2.out).2
                  go_wp2_with fail
                  refine K62.out.mono ?_
                  rintro r0 w3 ⟨rfl, rfl⟩
                  obtain ⟨a2, c2, rfl, _, _, _, _⟩ := owns_len HO2.out
                  go_wp2
                  go_roundw
                  case rel => exact ⟨q + 1, _, rfl, by omega, rfl, by rw [HTK.out, vN_append]; exact HO2.out, HB2.out⟩
                  case measure => simp [lenOf]; omega
              · have hqe : q = c.length := by omega
                have hqm : q % c.length = 0 := by rw [hqe, Nat.mod_self]
                rw [hqm]
                have HO3 := Lib.hid (show wr.ownsRow w.heap.size 3 1 (.slice va c.length vc) c.length (vN c) by have := HO.out; rw [hqe, List.take_length] at this; exact this)
                have t0 : ((q : Int) == 0) = false := beq_eq_false_iff_ne.2 (by omega)
                rw [show cg c 0 = x from HXC.out.symm]
                have t1 : ((x : Int) != (x : Int)) = false := by simp
                obtain ⟨gv, rfl⟩ := HVS.out (by omega)
                clear hqm HO
                have HQE := Lib.hid hqe
                clear hqe
                go_wp2
                go_ret
                rw [HQE.out]
                exact ⟨.inr ⟨s, p, l, c, gv, vc, HC.out, HW.out, HPL.out, HPE.out, HDN.out, rfl, HO3.out⟩, HBQ.out⟩
          · rw [show memB l x = false from decide_eq_false hin] at z0
            have HIN := Lib.hid hin
            clear hin
            go_wp2_with ((with_reducible refine at_store_op ?_); refine wpList_store_lit 4 w.heap.size x (tabB is.length (memB (l ++ [x]))) (.bool true) HROW.out sz4 (by rw [tabB_size]; exact hxn) rfl (by rw [memB_snoc]; exact tabB_set _ _ _ hxn _) ?_ ?_ ?_; exact rfl; exact rfl; intro w2 hp2; have HB2 := Lib.hid (hp2.below HB.out HB.out.size (Nat.le_refl _)); have z1 := (HPX.out w2 HB2.out).1; have K62 := Lib.hid (HPX.out w2 HB2.out).2)
            refine K62.out.mono ?_
            rintro r0 w3 ⟨rfl, rfl⟩
            have HW2 := Lib.hid (show Way is.length f D s (l ++ [x]) from by
              by_cases e : l.length = 0
              · have e2 : l = [] := List.eq_nil_of_length_eq_zero e
                rw [HX0.out e, e2]
                have hxs : x = s := HX0.out e
                exact Way.one hlt HDS.out
              · exact HW.out.snoc (by omega) (HX1.out (by omega)) HIN.out hxn HDX.out)
            have HNL := Lib.hid (HL.out x hxn HDX.out)
            have HLE := Lib.hid (show (l ++ [x]).getD ((l ++ [x]).length - 1) 0 = x by simp [List.getD_eq_getElem?_getD])
            have hm1 := nLeft_push hxn HIN.out
            have HLA := Lib.hid (leftOf_eq HROW.out)
            have HLB := Lib.hid (leftOf_eq hp2.at')
            go_wp2
            go_roundw
            case rel => exact ⟨l ++ [x], f x, rfl, HW2.out, (fun h => by simp at h), (fun _ => by rw [HLE.out]), HNL.out.1, HNL.out.2, hp2.at', HB2.out⟩
            case measure => rw [HLA.out, HLB.out]; omega
    · have hse : s = is.length := by omega
      have t0 : decide ((s : Int) < (is.length : Int)) = false := by simp; omega
      have t1 : ((s : Int) == (is.length : Int)) = true := beq_iff_eq.2 (by omega)
      have HDA := Lib.hid (show ∀ i, i < is.length → D i = true from fun i hi => HDN.out i (by omega))
      clear hse
      go_wp2
      go_ret
      exact ⟨.inl ⟨HDA.out, rfl⟩, Below.refl _ _⟩
end Go.Proofs.Ytpikmcapnmdmbaa
