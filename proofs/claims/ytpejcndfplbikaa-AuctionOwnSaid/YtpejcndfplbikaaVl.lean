/-
  Layer 21: End, the program's.
-/
import Derived.Test.YtpejcndfplbikaaVk
import Derived.Test.YtpejcndfplbikaaVn
namespace Go.Proofs.Ytpejcndfplbikaa
open Go.RowKit Go.K
set_option linter.unusedVariables false
set_option linter.unusedSimpArgs false
theorem winV_no {k r : Int} {l : List DE} (h : ¬ ((k = 2 ∨ k = 3) ∧ 2 ≤ l.length)) : winV k r l = (0, 0) := by unfold winV; rw [if_neg h]
theorem winV_lt (k r : Int) (l : List DE) : (winV k r l).1 = 0 ∨ (winV k r l).1 < l.length := by
  unfold winV
  split
  next h =>
    split
    · right; show l.length - 1 < l.length; omega
    · rcases bst_best r (dC l) l.length with ⟨h, _⟩ | ⟨_, h, _⟩
      · exact .inl h
      · exact .inr h
  next => exact .inl rfl
theorem endL_back {k r : Int} {l : List DE} (h : (winV k r l).1 = 0) : endL k r l = backP l l.length := by unfold endL; rw [if_pos h]
/-- The cells of entry number i, in the words of what it says. -/
theorem ConOk.entD {W : World} {c : Con} (h : ConOk W c) (i : Nat) (hi : i < c.es.length) : ∃ (b off : Nat) (pr : Int) (wa : Option Addr) (ws : List Int) (wc : Nat), c.ea = some ⟨b, off, none⟩ ∧
    W.cell? ⟨b, off + i * 5, none⟩ = some (.int .i64 (dA (c.es.map Ent.d) i)) ∧ W.cell? ⟨b, off + i * 5 + 1, none⟩ = some (.int .i64 (dI (c.es.map Ent.d) i)) ∧ W.cell? ⟨b, off + i * 5 + 2, none⟩ = some (.int .u64 (dC (c.es.map Ent.d) i)) ∧
    W.cell? ⟨b, off + i * 5 + 3, none⟩ = some (.int .u64 pr) ∧ W.cell? ⟨b, off + i * 5 + 4, none⟩ = some (.slice wa ws.length wc) := by
  obtain ⟨b, off, he, f0, f1, f2, f3, f4⟩ := h.ent i hi
  exact ⟨b, off, _, _, _, _, he, by rw [dA_ent _ _ hi]; exact f0, by rw [dI_ent _ _ hi]; exact f1, by rw [dC_ent _ _ hi]; exact f2, f3, f4⟩
theorem Grow.box {B : Nat} {w w' : World} {v v' : Value} {n m : Nat} {xs ys : List Value} {i : Nat} {o : Obj} (h : Grow B w w' v v' n m xs ys) (hr : w.heap[i]? = some o) (hne : v.ownBlock ≠ some i) : w'.heap[i]? = some o ∧ v'.ownBlock ≠ some i := by
  refine ⟨h.only.row hr hne, ?_⟩
  rcases h.at' with e | ⟨k, e, hk⟩
  · rw [e]; exact hne
  · rw [e]; intro e2; have := Option.some.inj e2; have := lt_row hr; omega
theorem Grow.from' {B : Nat} {w wa w' : World} {v v' : Value} {n m : Nat} {xs ys : List Value} (hb : Below w.heap.size w wa) (h : Grow B wa w' v v' n m xs ys) : Grow B w w' v v' n m xs ys :=
  ⟨h.row, (Only.of_below hb).trans h.only (fun k hk => .inl hk), h.at'.imp id (fun ⟨k, e, hk⟩ => ⟨k, e, Nat.le_trans hb.size hk⟩)⟩
theorem run_enter {f : FuncId} {fn : Func} (hf : Try.prog.funcs[f]? = some fn) (hn : (fn.name == "runtime.NumGoroutine") = false) (hb : fn.body.isSome = true) (args : Array Value) (w : World) : (callFunc f args).run Try.prog w = .ok (.enter f args) w := by
  have h1 : fn.name ≠ "runtime.NumGoroutine" := by simpa using hn
  obtain ⟨c, hc⟩ := Option.isSome_iff_exists.1 hb
  simp [callFunc, hf, h1, hc]
/-- Who wins, whichever the kind of auction. -/
theorem wins_any (c : Con) (g gc : Nat) (w : World) (hk : (c.kind = 2 ∨ c.kind = 3) ∧ 2 ≤ c.es.length) : ∃ f : FuncId, winsV c.kind gc = .func (.func f) #[] #[.pointer (some ⟨gc, 0, none⟩)] ∧ (∀ V, (callFunc f #[.pointer (some ⟨gc, 0, none⟩)]).run Try.prog V = .ok (.enter f #[.pointer (some ⟨gc, 0, none⟩)]) V) ∧
    ∀ V, ConOk V c → Hall V g gc c → Calls Try.prog f #[.pointer (some ⟨gc, 0, none⟩)] V fun r w' => r = .returned (.tuple #[.int .i64 ((winV c.kind c.reserve (c.es.map Ent.d)).1 : Nat), .int .u64 (winV c.kind c.reserve (c.es.map Ent.d)).2]) ∧ Qt V w' := by
  by_cases h2 : c.kind = 2
  · refine ⟨51, by unfold winsV; rw [if_pos h2], run_enter (fn := Try.f51) (by kernel_rfl) (by kernel_rfl) (by kernel_rfl) _, fun V hc hh => ?_⟩
    have e : winV c.kind c.reserve (c.es.map Ent.d) = (c.es.length - 1, dC (c.es.map Ent.d) (c.es.length - 1)) := by unfold winV; rw [if_pos ⟨hk.1, by simpa using hk.2⟩, if_pos h2, List.length_map]
    rw [e]
    exact win51_any c g gc V hc hh hk.2
  · have h3 : c.kind = 3 := hk.1.resolve_left h2
    refine ⟨52, by unfold winsV; rw [if_neg h2, if_pos h3], run_enter (fn := Try.f52) (by kernel_rfl) (by kernel_rfl) (by kernel_rfl) _, fun V hc hh => ?_⟩
    have e : winV c.kind c.reserve (c.es.map Ent.d) = (bst c.reserve (dC (c.es.map Ent.d)) c.es.length, pay c.reserve (dC (c.es.map Ent.d)) (bst c.reserve (dC (c.es.map Ent.d)) c.es.length) c.es.length) := by unfold winV; rw [if_pos ⟨hk.1, by simpa using hk.2⟩, if_neg h2, List.length_map]
    rw [e]
    exact (win52_any c g gc V hc hh).mono (fun r w' ⟨h1, h2⟩ => ⟨h1, h2 ▸ Qt.refl _⟩)
set_option maxRecDepth 100000 in
set_option maxHeartbeats 4000000 in
theorem end_any (c : Con) (w : World) (hc : ConOk w c) : Calls Try.prog 17 #[c.agg] w fun r w' => OwnG w.heap.size w' r (endL c.kind c.reserve (c.es.map Ent.d)) ∧ Below w.heap.size w w' := by
  have HC := Lib.hid hc
  have hm := hc.mx
  have HKO := Lib.hid (fun V => open_any c V)
  have HKB := Lib.hid (fun V (h : Below w.heap.size w V) => back_all c V (hc.kept h))
  have HWL := Lib.hid (winV_lt c.kind c.reserve (c.es.map Ent.d))
  clear hc
  by_cases hk : (c.kind = 2 ∨ c.kind = 3) ∧ 2 ≤ c.es.length
  case neg =>
    have HE := Lib.hid (show endL c.kind c.reserve (c.es.map Ent.d) = backP (c.es.map Ent.d) c.es.length by
      rw [endL_back (by rw [winV_no (by rw [List.length_map]; exact hk)]), List.length_map])
    rw [HE.out]
    have HB := Lib.hid (fun X => (Below.refl w.heap.size w).alloc (Nat.le_refl _) X)
    have HBS := Lib.hid (fun (g gc : Nat) (V : World) (h : Hall V g gc c) => bids_any c g gc V hm h)
    by_cases hk2 : c.kind = 2 ∨ c.kind = 3
    · have hn : c.es.length ≤ 1 := by have := fun h => hk ⟨hk2, h⟩; omega
      have c3 : (((c.es.length - 1 : Nat) : Int) == 0) = true := by simp; omega
      have hwv : ∀ gc, ∃ f : FuncId, winsV c.kind gc = .func (.func f) #[] #[.pointer (some ⟨gc, 0, none⟩)] := fun gc => by
        unfold winsV; rcases hk2 with h | h <;> rw [h]
        · exact ⟨51, rfl⟩
        · exact ⟨52, rfl⟩
      have HWV := Lib.hid hwv
      clear hk hk2 hwv HE HWL HC
      have q0 := fun f a b W => eql73 f a b W
      unfold Con.agg at HKO HKB ⊢
      go_enter Try.func17, Try.ntmps17
      go_wp2_with fail
      refine (HKO.out _).mono ?_
      rintro r0 w1 ⟨g, gc, rfl, hg, hgc, hh, hb⟩
      have z11 := hh.wins
      obtain ⟨f, hf⟩ := HWV.out gc
      rw [hf] at z11
      have HB1 := Lib.hid ((HB.out _).trans (hb.mono (HB.out _).size))
      have HH := Lib.hid hh
      obtain ⟨y0, y1, y2, y3, y4, y5, y6, y7, y8, y9, y10⟩ := cells11 (row_kept (show (w.alloc (.cells #[.int .i64 c.num, .int .i64 c.kind, .int .i64 c.by', .int .i64 c.dl, .int .i64 c.to', .int .i64 c.want, .int .u64 c.price, .int .u64 c.reserve, .int .u64 c.step, .int .i64 c.of', .slice c.ea c.es.length c.ec] 25)).heap[w.heap.size]? = some (.cells #[.int .i64 c.num, .int .i64 c.kind, .int .i64 c.by', .int .i64 c.dl, .int .i64 c.to', .int .i64 c.want, .int .u64 c.price, .int .u64 c.reserve, .int .u64 c.step, .int .i64 c.of', .slice c.ea c.es.length c.ec] 25) from alloc_at rfl) hb)
      clear hb hh hf
      go_wp2_with fail
      refine (HBS.out g gc _ HH.out).mono ?_
      rintro r1 w2 ⟨rfl, rfl⟩
      go_wp2_with fail
      refine (HKB.out _ HB1.out).mono ?_
      rintro r2 w3 ⟨⟨ad, cap, rfl, ho⟩, hb⟩
      have HO := Lib.hid (OwnG.mk (owns_base ho HB1.out.size))
      have HB3 := Lib.hid (HB1.out.trans (hb.mono HB1.out.size))
      clear ho hb
      go_wp2
      go_ret
      exact ⟨HO.out, HB3.out⟩
    · have hwn : ∀ gc, winsV c.kind gc = .nilFunc := fun gc => by unfold winsV; rw [if_neg (fun h => hk2 (.inl h)), if_neg (fun h => hk2 (.inr h))]
      have HWV := Lib.hid hwn
      clear hk hk2 hwn HE HWL HC HBS
      have q0 := fun W => eql73n W
      unfold Con.agg at HKO HKB ⊢
      go_enter Try.func17, Try.ntmps17
      go_wp2_with fail
      refine (HKO.out _).mono ?_
      rintro r0 w1 ⟨g, gc, rfl, hg, hgc, hh, hb⟩
      have z11 := hh.wins
      rw [HWV.out gc] at z11
      have HB1 := Lib.hid ((HB.out _).trans (hb.mono (HB.out _).size))
      obtain ⟨y0, y1, y2, y3, y4, y5, y6, y7, y8, y9, y10⟩ := cells11 (row_kept (show (w.alloc (.cells #[.int .i64 c.num, .int .i64 c.kind, .int .i64 c.by', .int .i64 c.dl, .int .i64 c.to', .int .i64 c.want, .int .u64 c.price, .int .u64 c.reserve, .int .u64 c.step, .int .i64 c.of', .slice c.ea c.es.length c.ec] 25)).heap[w.heap.size]? = some (.cells #[.int .i64 c.num, .int .i64 c.kind, .int .i64 c.by', .int .i64 c.dl, .int .i64 c.to', .int .i64 c.want, .int .u64 c.price, .int .u64 c.reserve, .int .u64 c.step, .int .i64 c.of', .slice c.ea c.es.length c.ec] 25) from alloc_at rfl) hb)
      clear hb hh
      go_wp2_with fail
      refine (HKB.out _ HB1.out).mono ?_
      rintro r2 w3 ⟨⟨ad, cap, rfl, ho⟩, hb⟩
      have HO := Lib.hid (OwnG.mk (owns_base ho HB1.out.size))
      have HB3 := Lib.hid (HB1.out.trans (hb.mono HB1.out.size))
      clear ho hb
      go_wp2
      go_ret
      exact ⟨HO.out, HB3.out⟩
  case pos =>
    have hlen : 2 ≤ c.es.length := hk.2
    have q0 := fun f a b W => eql73 f a b W
    have c3 : (((c.es.length - 1 : Nat) : Int) == 0) = false := by simp; omega
    have HBS := Lib.hid (fun (g gc : Nat) (V : World) (h : Hall V g gc c) => bids_any c g gc V hm h)
    have HB := Lib.hid (fun X => (Below.refl w.heap.size w).alloc (Nat.le_refl _) X)
    have HWA := Lib.hid (fun g gc => wins_any c g gc w hk)
    clear hk
    unfold Con.agg at HKO HKB ⊢
    go_enter Try.func17, Try.ntmps17
    go_wp2_with fail
    refine (HKO.out _).mono ?_
    rintro r0 w1 ⟨g, gc, rfl, hg, hgc, hh, hb⟩
    have z11 := hh.wins
    obtain ⟨f, hf, hent, hcall⟩ := HWA.out g gc
    rw [hf] at z11
    have HB1 := Lib.hid ((HB.out _).trans (hb.mono (HB.out _).size))
    have HH := Lib.hid hh
    have HCA := Lib.hid hcall
    have HLB := Lib.hid hb
    clear hb hh hf hcall HWA
    go_wp2_with fail
    refine (HBS.out g gc _ HH.out).mono ?_
    rintro r1 w2 ⟨rfl, rfl⟩
    go_wp2_with fail
    refine (HCA.out _ (HC.out.kept HB1.out) HH.out).mono ?_
    rintro r2 w2 ⟨rfl, hq⟩
    have hb := HLB.out
    obtain ⟨y0, y1, y2, y3, y4, y5, y6, y7, y8, y9, y10⟩ := cells11 (row_kept (row_kept (show (w.alloc (.cells #[.int .i64 c.num, .int .i64 c.kind, .int .i64 c.by', .int .i64 c.dl, .int .i64 c.to', .int .i64 c.want, .int .u64 c.price, .int .u64 c.reserve, .int .u64 c.step, .int .i64 c.of', .slice c.ea c.es.length c.ec] 25)).heap[w.heap.size]? = some (.cells #[.int .i64 c.num, .int .i64 c.kind, .int .i64 c.by', .int .i64 c.dl, .int .i64 c.to', .int .i64 c.want, .int .u64 c.price, .int .u64 c.reserve, .int .u64 c.step, .int .i64 c.of', .slice c.ea c.es.length c.ec] 25) from alloc_at rfl) hb) (hq.below _))
    have HB2 := Lib.hid (HB1.out.trans (hq.below _))
    have HH2 := Lib.hid (HH.out.kept (hq.below _))
    have HEL := Lib.hid (show endL c.kind c.reserve (c.es.map Ent.d) = if (winV c.kind c.reserve (c.es.map Ent.d)).1 = 0 then backP (c.es.map Ent.d) c.es.length else endP (c.es.map Ent.d) (winV c.kind c.reserve (c.es.map Ent.d)).1 (winV c.kind c.reserve (c.es.map Ent.d)).2 c.es.length by unfold endL; rw [List.length_map])
    have HWL2 := Lib.hid (show (winV c.kind c.reserve (c.es.map Ent.d)).1 = 0 ∨ (winV c.kind c.reserve (c.es.map Ent.d)).1 < c.es.length by have h := HWL.out; rw [List.length_map] at h; exact h)
    clear HWL hb hq HLB HCA HH HBS z11 HKO
    generalize winV c.kind c.reserve (c.es.map Ent.d) = wv at *
    obtain ⟨a, p⟩ := wv
    simp only at HEL HWL2
    by_cases ha : a = 0
    · have c4 : ((a : Int) == 0) = true := by simp; omega
      have HE := Lib.hid (HEL.out.trans (if_pos ha))
      clear ha HEL HWL2
      go_wp2_with fail
      refine (HKB.out _ HB2.out).mono ?_
      rintro r2 w3 ⟨⟨ad, cap, rfl, ho⟩, hb⟩
      have HO := Lib.hid (OwnG.mk (owns_base ho HB2.out.size))
      have HB3 := Lib.hid (HB2.out.trans (hb.mono HB2.out.size))
      clear ho hb
      go_wp2
      go_ret
      rw [HE.out]
      exact ⟨HO.out, HB3.out⟩
    have c4 : ((a : Int) == 0) = false := by simp; omega
    have han : a < c.es.length := by have := HWL2.out; omega
    have HE := Lib.hid (HEL.out.trans (if_neg ha))
    clear HEL HWL2 HKB y0 y1 y2 y3 y4 y5 y6 y7 y8 y9 y10
    have HFD := Lib.hid (fun V (h : Below w.heap.size w V) i hi => (HC.out.kept h).entD i hi)
    obtain ⟨ob, oo, pr0, wa0, ws0, wk0, hea, f0, f1, f2, f3, f4⟩ := HFD.out _ HB2.out 0 (by omega)
    have HOB := Lib.hid (show ob < w.heap.size by
      obtain ⟨_, _, _, _, _, _, he, g0, _⟩ := HC.out.entD 0 (by omega)
      rw [hea] at he
      cases he
      exact World.block_lt_of_cell? w _ g0)
    have HEA := Lib.hid hea
    have z10 := HH2.out.es
    have zA10 : ∀ X, (w2.alloc X).cell? ⟨g, 10, none⟩ = some (.slice c.ea c.es.length c.ec) := fun X => (show Hall _ _ _ _ from HH2.out.kept ((Below.refl _ _).alloc (Nat.le_refl _) X)).es
    rw [hea] at z10 zA10
    simp only [Nat.zero_mul, Nat.add_zero] at f0 f1 f2 f3 f4
    generalize hds : c.es.map Ent.d = ds at *
    have HDS := Lib.hid hds
    clear hds hea HC
    have i0 : (0 : Int) < (c.es.length : Int) := by omega
    go_wp2
    obtain ⟨wB, hwB⟩ : ∃ W, W = w2.alloc (.cells #[.int .i64 (dA ds 0), .int .i64 (dI ds 0), .int .u64 (dC ds 0), .int .u64 pr0, .slice wa0 ws0.length wk0] 33) := ⟨_, rfl⟩
    have HBB := Lib.hid (show Below w.heap.size w wB by rw [hwB]; exact HB2.out.alloc HB2.out.size _)
    have HHB := Lib.hid (show Hall wB g gc c by rw [hwB]; exact HH2.out.kept ((Below.refl _ _).alloc (Nat.le_refl _) _))
    have HSL := Lib.hid (show wB.heap[w2.heap.size]? = some (.cells #[.int .i64 (dA ds 0), .int .i64 (dI ds 0), .int .u64 (dC ds 0), .int .u64 pr0, .slice wa0 ws0.length wk0] 33) by rw [hwB]; exact alloc_at rfl)
    rw [← hwB]
    clear hwB f0 f1 f2 f3 f4 z10 zA10
    go_loopw [6, 8, 9, 49] (fun v' x8 x9 i wr => ∃ (j : Nat) (v : Value), v = v' ∧ j ≤ c.es.length ∧ i = .int .i64 j ∧ Below wB.heap.size wB wr ∧ wr.ownsRow wB.heap.size 64 3 v (endP ds a p j).length (gFlat (endP ds a p j))) (fun _ _ _ i _ => c.es.length - (intOf i).toNat)
    case atStart => exact ⟨0, _, rfl, by omega, rfl, Below.refl _ _, World.ownsRow_nil _ _ _ _⟩
    case round =>
      obtain ⟨j, v, hv, hj, rfl, hb, ho⟩ := hrel
      subst hv
      have HBr := Lib.hid hb
      have HO := Lib.hid ho
      clear hb ho
      by_cases hlt : j < c.es.length
      · have t0 : decide ((j : Int) < (c.es.length : Int)) = true := by simp; omega
        have i1 : (j : Int) < (c.es.length : Int) := by omega
        have i2 : (a : Int) < (c.es.length : Int) := by omega
        obtain ⟨_, _, prj, waj, wsj, wkj, hea, f0, f1, f2, f3, f4⟩ := HFD.out _ (HBB.out.trans (HBr.out.mono HBB.out.size)) j hlt
        rw [HEA.out] at hea
        cases hea
        obtain ⟨V0, hV0⟩ : ∃ W, W = wr.alloc (.cells #[.int .i64 (dA ds j), .int .i64 (dI ds j), .int .u64 (dC ds j), .int .u64 prj, .slice waj wsj.length wkj] 33) := ⟨_, rfl⟩
        have HV0 := Lib.hid hV0
        have HBV := Lib.hid (show Below wr.heap.size wr V0 by rw [hV0]; exact (Below.refl _ _).alloc (Nat.le_refl _) _)
        have r9 : V0.heap[wr.heap.size]? = some (.cells #[.int .i64 (dA ds j), .int .i64 (dI ds j), .int .u64 (dC ds j), .int .u64 prj, .slice waj wsj.length wkj] 33) := by rw [hV0]; exact alloc_at rfl
        have HR9 := Lib.hid r9
        have HOV := Lib.hid (owns_below (B := 0) HO.out HBV.out)
        have HBW := Lib.hid (HBr.out.trans (HBV.out.mono HBr.out.size))
        have hb0 := HBB.out.trans (HBW.out.mono HBB.out.size)
        obtain ⟨_, _, pra, waa, wsa, wka, hea, g0, g1, g2, g3, g4⟩ := HFD.out _ hb0 a han
        rw [HEA.out] at hea
        cases hea
        obtain ⟨e0, e1, e2, e3, e4⟩ := cells5 r9
        have HN := Lib.hid (show endP ds a p (j + 1) = endP ds a p j ++ endS ds a p j from rfl)
        have HL := Lib.hid (endP_le ds a p j)
        have hne9 : v.ownBlock ≠ some wr.heap.size := fun h => by have := (HO.out.lt _ h).2; omega
        have hneg : v.ownBlock ≠ some g := fun h => by have := (HO.out.lt _ h).1; have := lt_row HHB.out.row; omega
        have hneo : v.ownBlock ≠ some ob := fun h => by have := (HO.out.lt _ h).1; have := HOB.out; have := HBB.out.size; omega
        have hnes : v.ownBlock ≠ some w2.heap.size := fun h => by have := (HO.out.lt _ h).1; have := lt_row HSL.out; omega
        have HNE := Lib.hid (And.intro hne9 (And.intro hneg (And.intro hneo hnes)))
        have HSV := Lib.hid (row_kept HSL.out HBW.out)
        have k10 := (HHB.out.kept HBW.out).es
        rw [HEA.out] at k10
        have hVs := HBW.out.size
        have HVS := Lib.hid hVs
        have hsn : (endP ds a p j).length ≤ 5700000000000 := by have := HL.out; split at this <;> omega
        clear r9 hV0 hne9 hneg hneo hnes hb0 g1 g2 g3 g4 hVs HL
        have FIN := Lib.hid (show ∀ (W : World) (v' : Value) (m : Nat) (ys : List Value), Grow wB.heap.size V0 W v v' (endP ds a p j).length m (gFlat (endP ds a p j)) ys → m = (endS ds a p j).length → ys = gFlat (endS ds a p j) →
            Below wB.heap.size wB W ∧ W.ownsRow wB.heap.size 64 3 v' (endP ds a p (j + 1)).length (gFlat (endP ds a p (j + 1))) from fun W v' m ys h hm' hys => by
          subst hm' hys
          exact ⟨HBW.out.trans (h.below HOV.out (Nat.le_refl _) HVS.out), by rw [HN.out, List.length_append, gFlat_append]; exact h.row⟩)
        by_cases hj0 : j = 0
        · have d0 : ((j : Int) == 0) = true := by simp; omega
          have HS := Lib.hid (show endS ds a p j = giveL (dA ds a) (dI ds j) 0 ++ giveL (dA ds j) 0 (dC ds j) by unfold endS; rw [if_pos hj0, hj0])
          clear hj0
          have HK1 := Lib.hid (fun V (h : Below V0.heap.size V0 V) => give_any wB.heap.size v _ _ (dA ds a) (dI ds j) 0 V (Nat.le_trans HVS.out h.size) (by omega) (owns_below (B := 0) HOV.out h))
          go_wp2
          rw [← HV0.out]
          have hD0 : Below V0.heap.size V0 V0.drew := (Qt.drewN V0 1).below _
          go_region_held3 (fun V => V.cell? ⟨g, 10, none⟩ = some (.slice (some ⟨ob, oo, none⟩) c.es.length c.ec) ∧ V.cell? ⟨ob, oo + a * 5, none⟩ = some (.int .i64 (dA ds a)) ∧ V.cell? ⟨wr.heap.size, 1, none⟩ = some (.int .i64 (dI ds j))) (go_keep)
            ((go_at_call 44; (with_reducible refine (HK1.out _ hD0).mono ?_); rintro e1' w3 ⟨v1, rfl, hg1⟩; have hg1' := hg1.from' hD0; have s10 := hg1'.only.cell k10 HNE.out.2.1; have sa := hg1'.only.cell g0 HNE.out.2.2.1; have se := hg1'.only.cell e1 HNE.out.1))
          have hb9 := hg1'.box HR9.out HNE.out.1
          obtain ⟨u0, u1, u2, u3, u4⟩ := cells5 hb9.1
          have HG1 := Lib.hid hg1'
          have hg1l : (giveL (dA ds a) (dI ds j) 0).length ≤ 2 := giveL_le _ _ _
          clear hg1 hg1' hb9 HK1 s10 sa se hD0
          go_wp2_with (go_at_call 44; refine (give_any wB.heap.size v1 _ _ _ _ _ _ (Nat.le_trans HVS.out HG1.out.only.size) (by omega) HG1.out.row).mono ?_; rintro e2' w4 ⟨v2, rfl, hg2⟩)
          have HF := Lib.hid (FIN.out _ _ _ _ (HG1.out.next hg2) (by rw [HS.out, List.length_append]) (by rw [HS.out, gFlat_append]))
          clear hg2
          go_wp2
          go_roundw
          case rel => exact ⟨j + 1, _, rfl, by omega, by go_num, HF.out.1, HF.out.2⟩
          case measure => simp [intOf]; omega
        · have d0 : ((j : Int) == 0) = false := by simp; omega
          by_cases hja : j = a
          · have d1 : ((j : Int) == (a : Int)) = true := by simp; omega
            have HS := Lib.hid (show endS ds a p j = giveL (dA ds j) (dI ds j) 0 ++ giveL (dA ds 0) 0 p ++ giveL (dA ds j) 0 (IntKind.u64.wrap (dC ds j - p)) by unfold endS; rw [if_neg hj0, if_pos hja, hja])
            have l1 : (giveL (dA ds j) (dI ds j) 0).length ≤ 2 := giveL_le _ _ _
            have l2 : (giveL (dA ds 0) 0 p).length ≤ 2 := giveL_le _ _ _
            clear hj0 hja
            go_wp2_with fail
            rw [← HV0.out]
            refine (give_any wB.heap.size v _ _ _ _ _ V0 HVS.out (by omega) HOV.out).mono ?_
            rintro e1' w3 ⟨v1, rfl, hg1⟩
            have HG1 := Lib.hid hg1
            have hbs := hg1.box HSV.out HNE.out.2.2.2
            obtain ⟨u0, u1, u2, u3, u4⟩ := cells5 hbs.1
            have hb9 := hg1.box HR9.out HNE.out.1
            have HB9 := Lib.hid hb9
            clear hg1 hbs hb9
            go_wp2_with fail
            refine (give_any wB.heap.size v1 _ _ _ _ _ _ (Nat.le_trans HVS.out HG1.out.only.size) (by omega) HG1.out.row).mono ?_
            rintro e2' w4 ⟨v2, rfl, hg2⟩
            have HG2 := Lib.hid (HG1.out.next hg2)
            have hb9 := hg2.box HB9.out.1 HB9.out.2
            obtain ⟨x0, x1, x2, x3, x4⟩ := cells5 hb9.1
            clear hg2 hb9 u0 u1 u2 u3 u4
            go_wp2_with fail
            refine (give_any wB.heap.size v2 _ _ _ _ _ _ (Nat.le_trans HVS.out HG2.out.only.size) (by omega) HG2.out.row).mono ?_
            rintro e3' w5 ⟨v3, rfl, hg3⟩
            have HF := Lib.hid (FIN.out _ _ _ _ (HG2.out.next hg3) (by rw [HS.out, List.length_append, List.length_append]) (by rw [HS.out, gFlat_append, gFlat_append]))
            clear hg3
            go_wp2
            go_roundw
            case rel => exact ⟨j + 1, _, rfl, by omega, by go_num, HF.out.1, HF.out.2⟩
            case measure => simp [intOf]; omega
          · have d1 : ((j : Int) == (a : Int)) = false := by simp; omega
            have HS := Lib.hid (show endS ds a p j = giveL (dA ds j) (dI ds j) (dC ds j) by unfold endS; rw [if_neg hj0, if_neg hja])
            clear hj0 hja
            have HK := Lib.hid (back_any wB.heap.size v _ _ ⟨dA ds j, dI ds j, dC ds j, prj, waj, wkj, wsj⟩ V0 HVS.out (by omega) HOV.out)
            unfold Ent.agg at HK
            simp only at HK
            go_wp2_with fail
            rw [← HV0.out]
            refine HK.out.mono ?_
            rintro e1' w3 ⟨v1, rfl, hg1⟩
            have HF := Lib.hid (FIN.out _ _ _ _ hg1 (by rw [HS.out]; rfl) (by rw [HS.out]; rfl))
            clear hg1 HK
            go_wp2
            go_roundw
            case rel => exact ⟨j + 1, _, rfl, by omega, by go_num, HF.out.1, HF.out.2⟩
            case measure => simp [intOf]; omega
      · have t0 : decide ((j : Int) < (c.es.length : Int)) = false := by simp; omega
        have HJ := Lib.hid (show j = c.es.length by omega)
        go_wp2
        go_ret
        rw [HDS.out, HE.out]
        refine ⟨OwnG.mk ?_, HBB.out.trans (HBr.out.mono HBB.out.size)⟩
        have h := owns_base HO.out HBB.out.size
        rw [HJ.out] at h
        exact h
end Go.Proofs.Ytpejcndfplbikaa
