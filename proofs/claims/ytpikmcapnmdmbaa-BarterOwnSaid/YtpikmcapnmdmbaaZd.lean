/-
  Layer 22: lists: two lists of lists that share nothing, gone on with, written, looked at.
-/
import Derived.Test.YtpikmcapnmdmbaaDuo
import Derived.Test.YtpikmcapnmdmbaaZb
import Derived.Deep.AppendLies
namespace Go.Proofs.Ytpikmcapnmdmbaa
open Go.RowKit Go.K
set_option linter.unusedVariables false
set_option linter.unusedSimpArgs false
theorem frozen_kept {W W' : World} (hb : Below W.heap.size W W') {x : Addr} {u : Value} (h : W.cell? x = some u) : W'.frozen? x = W.frozen? x := by
  have hlt : x.block < W.heap.size := by
    rcases Nat.lt_or_ge x.block W.heap.size with h2 | h2
    · exact h2
    · unfold World.cell? at h
      rw [Array.getElem?_eq_none h2] at h
      cases h
  unfold World.frozen?
  rw [hb.block x.block hlt]
theorem mkBelow {sz : Nat} {W W' : World} {gA gB gG gH n N : Nat} {ma mb mg mh : Nat → Value} {ja jb : Nat} (h : Mk sz W gA gB gG gH n N ma mb mg mh ja jb) (hb : Below W.heap.size W W') : Mk sz W' gA gB gG gH n N ma mb mg mh ja jb :=
  ⟨fun i hi => below_cell hb (h.ca i hi), fun i hi => below_cell hb (h.cb i hi), fun i hi => below_cell hb (h.cg i hi), fun i hi => below_cell hb (h.ch i hi), fun i hi => by obtain ⟨u, hu⟩ := h.xa i hi; exact ⟨u, below_cell hb hu⟩, fun i hi => by obtain ⟨u, hu⟩ := h.xb i hi; exact ⟨u, below_cell hb hu⟩,
    fun i hi => by obtain ⟨u, hu⟩ := h.xa i hi; rw [frozen_kept hb hu]; exact h.fa i hi, fun i hi => by obtain ⟨u, hu⟩ := h.xb i hi; rw [frozen_kept hb hu]; exact h.fb i hi⟩
theorem mkCongr {sz : Nat} {W : World} {gA gB gG gH n N : Nat} {ma ma' mb mb' mg mh : Nat → Value} {ja jb : Nat} (h : Mk sz W gA gB gG gH n N ma mb mg mh ja jb) (hm : ∀ i, i < ja → ma i = ma' i) (hm2 : ∀ i, i < jb → mb i = mb' i) : Mk sz W gA gB gG gH n N ma' mb' mg mh ja jb :=
  ⟨fun i hi => by rw [← hm i hi]; exact h.ca i hi, fun i hi => by rw [← hm2 i hi]; exact h.cb i hi, h.cg, h.ch, h.xa, h.xb, h.fa, h.fb⟩
/-- Rows of two numbers, or of one. -/
def R2 (W : World) (K : Nat → Nat) (k : Nat) (z : Int) : Prop := ∀ p, p < k → W.heap[K p]? = some (.cells #[.int .i64 (p : Int), .int .i64 z] 3 (0, 0))
def R1 (W : World) (K : Nat → Nat) (k : Nat) (z : Int) : Prop := ∀ p, p < k → W.heap[K p]? = some (.cells #[.int .i64 z] 3 (0, 0))
theorem R2.kept {W W' : World} {K : Nat → Nat} {k : Nat} {z : Int} (h : R2 W K k z) (hb : Below W.heap.size W W') : R2 W' K k z := fun p hp => row_kept (h p hp) hb
theorem R1.kept {W W' : World} {K : Nat → Nat} {k : Nat} {z : Int} (h : R1 W K k z) (hb : Below W.heap.size W W') : R1 W' K k z := fun p hp => row_kept (h p hp) hb
theorem own_ne_row {W : World} {B t sz n g : Nat} {v : Value} {xs : List Value} {cs : Array Value} {t2 : TypeId} {fr : Nat × Nat} (h : W.ownsRow B t sz v n xs) (hb : W.heap[g]? = some (.cells cs t2 fr)) (ht : t ≠ t2) : v.ownBlock ≠ some g := by
  rcases h.2 with ⟨h1, _⟩ | ⟨g', cap, cur, rfl, _, hr, _⟩
  · rw [h1]; intro e; cases e
  · intro e
    injection e with e
    subst e
    rw [hb] at hr
    injection hr with hr
    injection hr with _ hr _
    exact ht hr.symm
theorem R2.grown {W W' : World} {K : Nat → Nat} {k : Nat} {z : Int} (h : R2 W K k z) {B sz n : Nat} {v : Value} {xs : List Value} (ho : W.ownsRow B 22 sz v n xs) (hg : W.grownBy W' v.ownBlock) : R2 W' K k z :=
  fun p hp => row_past (h p hp) hg (fun e => own_ne_row ho (h p hp) (by decide) e.symm)
theorem R2.set {W : World} {K : Nat → Nat} {k g o : Nat} {z : Int} {u : Value} {cs : Array Value} (h : R2 W K k z) (hg : W.heap[g]? = some (.cells cs 22 (0, 0))) : R2 (W.setCell ⟨g, o, none⟩ u) K k z :=
  fun p hp => row_past (h p hp) (grown_set (grown_refl W (some g)) o u) (fun e => rows_ne (h p hp) hg (by decide) (Option.some.inj e))
theorem R1.set {W : World} {K : Nat → Nat} {k g o : Nat} {z : Int} {u : Value} {cs : Array Value} (h : R1 W K k z) (hg : W.heap[g]? = some (.cells cs 22 (0, 0))) : R1 (W.setCell ⟨g, o, none⟩ u) K k z :=
  fun p hp => row_past (h p hp) (grown_set (grown_refl W (some g)) o u) (fun e => rows_ne (h p hp) hg (by decide) (Option.some.inj e))
def addK (K : Nat → Nat) (k g : Nat) : Nat → Nat := fun p => if p = k then g else K p
theorem addK_self (K : Nat → Nat) (k g : Nat) : addK K k g k = g := if_pos rfl
theorem addK_lt (K : Nat → Nat) {k g p : Nat} (h : p < k) : addK K k g p = K p := if_neg (by omega)
theorem R2.add {W : World} {K : Nat → Nat} {k g : Nat} {z : Int} (h : R2 W K k z) (hg : W.heap[g]? = some (.cells #[.int .i64 (k : Int), .int .i64 z] 3 (0, 0))) : R2 W (addK K k g) (k + 1) z := by
  intro p hp
  by_cases e : p = k
  · subst e; rw [addK_self]; exact hg
  · rw [addK_lt K (by omega)]; exact h p (by omega)
theorem R1.add {W : World} {K : Nat → Nat} {k g : Nat} {z : Int} (h : R1 W K k z) (hg : W.heap[g]? = some (.cells #[.int .i64 z] 3 (0, 0))) : R1 W (addK K k g) (k + 1) z := by
  intro p hp
  by_cases e : p = k
  · subst e; rw [addK_self]; exact hg
  · rw [addK_lt K (by omega)]; exact h p (by omega)
def sl2 (K : Nat → Nat) (k : Nat) : List Value := (List.range k).map fun p => .slice (some ⟨K p, 0, none⟩) 2 2
theorem sl2_succ (K : Nat → Nat) (k g : Nat) : sl2 (addK K k g) (k + 1) = sl2 K k ++ [.slice (some ⟨g, 0, none⟩) 2 2] := by
  unfold sl2
  rw [List.range_succ, List.map_append]
  congr 1
  · apply List.map_congr_left
    intro p hp
    rw [addK_lt K (List.mem_range.1 hp)]
  · simp only [List.map_cons, List.map_nil, addK_self]
theorem sl2_get (K : Nat → Nat) {k p : Nat} (h : p < k) : (sl2 K k)[p]? = some (.slice (some ⟨K p, 0, none⟩) 2 2) := by simp [sl2, h]
theorem liS : (Try.prog.info? 22).map (fun i => (i.zero, i.size, i.bytes)) = some (some (.slice none 0 0), 1, 24) := by kernel_rfl
theorem one_sl (u0 : Value) (a : Option Addr) (n c : Nat) (h : u0 = .slice a n c) : ∀ u ∈ [u0], u.oneCell' = true := by intro u hu; rw [List.mem_singleton] at hu; rw [hu, h]; rfl
set_option maxRecDepth 100000 in
set_option maxHeartbeats 4000000 in
theorem lists_any (B n : Nat) (xs ys : List Value) (a b : Option Addr) (c d : Nat) (w : World) (hn : n ≤ 1000000) (ha : w.ownsRow B 22 1 (.slice a n c) n xs) (hb : w.ownsRow B 22 1 (.slice b n d) n ys) (hab : offB (.slice a n c) (.slice b n d)) (hB : B ≤ w.heap.size) :
    Calls Try.prog 32 #[.slice a n c, .slice b n d] w fun e w' => e = .returned (.bool true) ∧ Only (fun x => (Value.slice a n c).ownBlock = some x ∨ (Value.slice b n d).ownBlock = some x) w w' := by
  have HA := Lib.hid ha
  have HB := Lib.hid hb
  have HBW := Lib.hid hB
  have HT0 := Lib.hid (Two.start ha hb hab)
  have HAL := Lib.hid (fun x h => (ha.lt x h).2)
  have HBL := Lib.hid (fun x h => (hb.lt x h).2)
  have HAB := Lib.hid hab
  clear ha hb hab hB
  have l0 : ((n : Int) != (n : Int)) = false := by simp
  go_enter Try.func32, Try.ntmps32
  go_wp2
  go_loopw [5, 6, 7] (fun x5 x6 x7 wr => ∃ (k : Nat) (vg vh : Value) (KG KH : Nat → Nat), vg = x5 ∧ vh = x6 ∧ k ≤ 40 ∧ x7 = .int .i64 k ∧ Two B 22 1 w wr (.slice a n c) (.slice b n d) n n xs ys k k (sl2 KG k) (sl2 KH k) vg vh ∧ R2 wr KG k 1 ∧ R2 wr KH k 2) (fun _ _ x7 _ => 40 - (intOf x7).toNat)
  case atStart => exact ⟨0, _, _, fun _ => 0, fun _ => 0, rfl, rfl, by omega, rfl, HT0.out, fun p hp => absurd hp (Nat.not_lt_zero p), fun p hp => absurd hp (Nat.not_lt_zero p)⟩
  case round =>
    clear HT0
    obtain ⟨k, vg, vh, KG, KH, hvg, hvh, hk, rfl, ht, hr1, hr2⟩ := hrel
    subst hvg hvh
    have HT := Lib.hid ht
    have HR1 := Lib.hid hr1
    have HR2 := Lib.hid hr2
    clear ht hr1 hr2
    by_cases hlt : k < 40
    case pos =>
      have t0 : decide ((k : Int) < 40) = true := by simp; omega
      have w3 : IntKind.i64.wrap ((k : Int) + 1) = ((k + 1 : Nat) : Int) := by rw [IntKind.wrap_i64]; omega
      have h63 : n + k + 1 ≤ maxLen := by unfold maxLen; omega
      have hby : (n + k + 1) * 24 ≤ 140737488355328 := by omega
      have HA0 := Lib.hid (show Below wr.heap.size wr (wr.alloc (.cells #[.int .i64 (k : Int), .int .i64 1] 3)) from (Below.refl _ _).alloc (Nat.le_refl _) _)
      have HA1 := Lib.hid (show Below wr.heap.size wr ((wr.alloc (.cells #[.int .i64 (k : Int), .int .i64 1] 3)).alloc (.cells #[.slice (some ⟨wr.heap.size, 0, none⟩) 2 2] 22)) from HA0.out.alloc HA0.out.size _)
      have HN1 := Lib.hid (show ((wr.alloc (.cells #[.int .i64 (k : Int), .int .i64 1] 3)).alloc (.cells #[.slice (some ⟨wr.heap.size, 0, none⟩) 2 2] 22)).heap[wr.heap.size]? = some (.cells #[.int .i64 (k : Int), .int .i64 1] 3 (0, 0)) from alloc_old (alloc_at rfl))
      have HT1 := Lib.hid (HT.out.below HA1.out)
      have HR1a := Lib.hid ((HR1.out.kept HA1.out).add HN1.out)
      have HR2a := Lib.hid (HR2.out.kept HA1.out)
      have hb1 : B ≤ ((wr.alloc (.cells #[.int .i64 (k : Int), .int .i64 1] 3)).alloc (.cells #[.slice (some ⟨wr.heap.size, 0, none⟩) 2 2] 22)).heap.size := by have h1 := HT.out.only.size; have h2 := HA1.out.size; have h3 := HBW.out; omega
      have HK := Lib.hid hlt
      have hs1 : Sl ((wr.alloc (.cells #[.int .i64 (k : Int), .int .i64 1] 3)).alloc (.cells #[.slice (some ⟨wr.heap.size, 0, none⟩) 2 2] 22)) (some ⟨wr.heap.size + 1, 0, none⟩) [.slice (some ⟨wr.heap.size, 0, none⟩) 2 2] := by
        have h := sl_new (wr.alloc (.cells #[.int .i64 (k : Int), .int .i64 1] 3)) [.slice (some ⟨wr.heap.size, 0, none⟩) 2 2] 22 (0, 0)
        rw [World.size_alloc] at h
        exact h
      have HS1 := Lib.hid hs1
      clear HT HR1 HR2 hlt hk hs1
      go_wp2_with (at_builtin; refine wpList_append_two rfl _ _ 23 rfl B 22 (.slice none 0 0) 1 24 Try.underlying23 liS (by rfl) (by decide) vg (n + k) (xs ++ sl2 KG k) (by rfl) HT1.out.a.own ⟨wr.heap.size + 1, 0, none⟩ 1 1 [.slice (some ⟨wr.heap.size, 0, none⟩) 2 2] (by rfl) (by decide) (by rfl) HS1.out (one_sl _ _ _ _ rfl) h63 hby hb1 ?a1)
      intro v5 w5 ho5 hg5 hl5
      have HT5 := Lib.hid (HT1.out.app (news := [.slice (some ⟨wr.heap.size, 0, none⟩) 2 2]) HAL.out HBL.out (by rw [List.append_assoc]; exact ho5) hg5 (by rw [show ((wr.alloc (.cells #[.int .i64 (k : Int), .int .i64 1] 3)).alloc (.cells #[.slice (some ⟨wr.heap.size, 0, none⟩) 2 2] 22)).heap.size = wr.heap.size + 1 + 1 by simp]; exact hl5))
      have HR1b := Lib.hid (HR1a.out.grown HT1.out.a.own hg5)
      have HR2b := Lib.hid (HR2a.out.grown HT1.out.a.own hg5)
      have HA5 := Lib.hid (show Below w5.heap.size w5 (w5.alloc (.cells #[.int .i64 (k : Int), .int .i64 2] 3)) from (Below.refl _ _).alloc (Nat.le_refl _) _)
      have HA6 := Lib.hid (show Below w5.heap.size w5 ((w5.alloc (.cells #[.int .i64 (k : Int), .int .i64 2] 3)).alloc (.cells #[.slice (some ⟨w5.heap.size, 0, none⟩) 2 2] 22)) from HA5.out.alloc HA5.out.size _)
      have HN6 := Lib.hid (show ((w5.alloc (.cells #[.int .i64 (k : Int), .int .i64 2] 3)).alloc (.cells #[.slice (some ⟨w5.heap.size, 0, none⟩) 2 2] 22)).heap[w5.heap.size]? = some (.cells #[.int .i64 (k : Int), .int .i64 2] 3 (0, 0)) from alloc_old (alloc_at rfl))
      have HT6 := Lib.hid (HT5.out.below HA6.out)
      have HR1c := Lib.hid (HR1b.out.kept HA6.out)
      have HR2c := Lib.hid ((HR2b.out.kept HA6.out).add HN6.out)
      have hb5 : B ≤ ((w5.alloc (.cells #[.int .i64 (k : Int), .int .i64 2] 3)).alloc (.cells #[.slice (some ⟨w5.heap.size, 0, none⟩) 2 2] 22)).heap.size := by have h1 := HT5.out.only.size; have h2 := HA6.out.size; have h3 := HBW.out; omega
      have hs5 : Sl ((w5.alloc (.cells #[.int .i64 (k : Int), .int .i64 2] 3)).alloc (.cells #[.slice (some ⟨w5.heap.size, 0, none⟩) 2 2] 22)) (some ⟨w5.heap.size + 1, 0, none⟩) [.slice (some ⟨w5.heap.size, 0, none⟩) 2 2] := by
        have h := sl_new (w5.alloc (.cells #[.int .i64 (k : Int), .int .i64 2] 3)) [.slice (some ⟨w5.heap.size, 0, none⟩) 2 2] 22 (0, 0)
        rw [World.size_alloc] at h
        exact h
      have HS5 := Lib.hid hs5
      clear ho5 hg5 hl5 HT1 HA0 HA1 hb1 HT5 HN1 HR1a HR2a HR1b HR2b hs5
      go_wp2_with (at_builtin; refine wpList_append_two rfl _ _ 23 rfl B 22 (.slice none 0 0) 1 24 Try.underlying23 liS (by rfl) (by decide) vh (n + k) (ys ++ sl2 KH k) (by rfl) HT6.out.b.own ⟨w5.heap.size + 1, 0, none⟩ 1 1 [.slice (some ⟨w5.heap.size, 0, none⟩) 2 2] (by rfl) (by decide) (by rfl) HS5.out (one_sl _ _ _ _ rfl) h63 hby hb5 ?a2)
      intro v6 w6 ho6 hg6 hl6
      have HT7 := Lib.hid ((HT6.out.swap.app (news := [.slice (some ⟨w5.heap.size, 0, none⟩) 2 2]) HBL.out HAL.out (by rw [List.append_assoc]; exact ho6) hg6 (by rw [show ((w5.alloc (.cells #[.int .i64 (k : Int), .int .i64 2] 3)).alloc (.cells #[.slice (some ⟨w5.heap.size, 0, none⟩) 2 2] 22)).heap.size = w5.heap.size + 1 + 1 by simp]; exact hl6)).swap)
      rw [← sl2_succ, ← sl2_succ] at HT7
      have HR1d := Lib.hid (HR1c.out.grown HT6.out.b.own hg6)
      have HR2d := Lib.hid (HR2c.out.grown HT6.out.b.own hg6)
      clear ho6 hg6 hl6 HT6 HA5 HA6 hb5 HN6 HR1c HR2c
      go_wp2
      go_roundw
      case rel => exact ⟨k + 1, _, _, _, _, rfl, rfl, HK.out, by go_num, HT7.out, HR1d.out, HR2d.out⟩
      case measure => have := HK.out; simp [intOf]; omega
    case neg =>
      have t0 : decide ((k : Int) < 40) = false := by simp; omega
      obtain rfl : k = 40 := by omega
      obtain ⟨gG, cG, _, hvg, _⟩ := owns_cases HT.out.a.own (by omega)
      obtain ⟨gH, cH, _, hvh, _⟩ := owns_cases HT.out.b.own (by omega)
      subst hvg hvh
      obtain ⟨gA, hgA⟩ : ∃ gA, 0 < n → (Value.slice a n c).ownBlock = some gA := by
        by_cases h : 0 < n
        · obtain ⟨g, hg⟩ := own_block_of HA.out h; exact ⟨g, fun _ => hg⟩
        · exact ⟨0, fun h2 => absurd h2 h⟩
      obtain ⟨gB, hgB⟩ : ∃ gB, 0 < n → (Value.slice b n d).ownBlock = some gB := by
        by_cases h : 0 < n
        · obtain ⟨g, hg⟩ := own_block_of HB.out h; exact ⟨g, fun _ => hg⟩
        · exact ⟨0, fun h2 => absurd h2 h⟩
      have HGA := Lib.hid hgA
      have HGB := Lib.hid hgB
      have HAA := Lib.hid (show 0 < n → a = some ⟨gA, 0, none⟩ from fun h => by
        obtain ⟨g, _, _, hv, _⟩ := owns_cases HA.out h
        have := hgA h
        injection hv with h1 h2 h3
        rw [h1] at this ⊢
        have e : g = gA := Option.some.inj this
        rw [e])
      have HBB := Lib.hid (show 0 < n → b = some ⟨gB, 0, none⟩ from fun h => by
        obtain ⟨g, _, _, hv, _⟩ := owns_cases HB.out h
        have := hgB h
        injection hv with h1 h2 h3
        rw [h1] at this ⊢
        have e : g = gB := Option.some.inj this
        rw [e])
      have HNE := Lib.hid (show 0 < n → gA ≠ gB ∧ gA ≠ gH ∧ gB ≠ gG from fun h => ⟨fun e => HAB.out gA (hgA h) (e ▸ hgB h), fun e => HT.out.ah gA (hgA h) (by rw [e]; rfl), fun e => HT.out.bg gB (hgB h) (by rw [e]; rfl)⟩)
      have HM0 := Lib.hid (Mk.start (ma := fun _ => .slice (some ⟨0, 0, none⟩) 1 1) (mb := fun _ => .slice (some ⟨0, 0, none⟩) 1 1) (mg := fun k => .slice (some ⟨KG k, 0, none⟩) 2 2) (mh := fun k => .slice (some ⟨KH k, 0, none⟩) 2 2) HT.out (by decide) HA.out.1 HB.out.1
        (fun k hk => by rw [Nat.mul_one]; exact sl2_get KG hk) (fun k hk => by rw [Nat.mul_one]; exact sl2_get KH hk) hgA hgB)
      have HO0 := Lib.hid HT.out.only
      have rowOf : ∀ {v : Value} {ps : List Value} {g : Nat}, 0 < n → ps.length = n * 1 → VerT 22 wr v ps → v.ownBlock = some g → ∃ cs, wr.heap[g]? = some (.cells cs 22 (0, 0)) := by
        intro v ps g hn0 hl hv hg
        obtain ⟨g2, cur, h1, h2, _⟩ := hv (by intro e; rw [e] at hl; simp at hl; omega)
        rw [hg] at h1
        injection h1 with h1
        exact ⟨cur, h1 ▸ h2⟩
      have HW0 := Lib.hid (show 0 < n → (∃ cs, wr.heap[gA]? = some (.cells cs 22 (0, 0))) ∧ ∃ cs, wr.heap[gB]? = some (.cells cs 22 (0, 0)) from fun h => ⟨rowOf h HA.out.1 HT.out.a.ver (hgA h), rowOf h HB.out.1 HT.out.b.ver (hgB h)⟩)
      clear hgA hgB HT hk hlt rowOf
      go_wp2
      go_loopw [8] (fun x8 wr => ∃ (i : Nat) (LA LB : Nat → Nat), i ≤ n ∧ x8 = .int .i64 i ∧ Mk 1 wr gA gB gG gH n 40 (fun p => .slice (some ⟨LA p, 0, none⟩) 1 1) (fun p => .slice (some ⟨LB p, 0, none⟩) 1 1) (fun k => .slice (some ⟨KG k, 0, none⟩) 2 2) (fun k => .slice (some ⟨KH k, 0, none⟩) 2 2) i i ∧ Only (fun x => (Value.slice a n c).ownBlock = some x ∨ (Value.slice b n d).ownBlock = some x) w wr ∧
        (0 < n → (∃ cs, wr.heap[gA]? = some (.cells cs 22 (0, 0))) ∧ ∃ cs, wr.heap[gB]? = some (.cells cs 22 (0, 0))) ∧ R2 wr KG 40 1 ∧ R2 wr KH 40 2 ∧ R1 wr LA i 3 ∧ R1 wr LB i 4) (fun x8 _ => n - (intOf x8).toNat)
      case atStart => exact ⟨0, fun _ => 0, fun _ => 0, by omega, rfl, HM0.out, HO0.out, HW0.out, HR1.out, HR2.out, fun p hp => absurd hp (Nat.not_lt_zero p), fun p hp => absurd hp (Nat.not_lt_zero p)⟩
      case round =>
        clear HM0 HO0 HW0 HR1 HR2
        obtain ⟨i, LA, LB, hi, rfl, hm, ho, hw, hr1, hr2, hl1, hl2⟩ := hrel
        have HM := Lib.hid hm
        have HO := Lib.hid ho
        have HW := Lib.hid hw
        have HR1 := Lib.hid hr1
        have HR2 := Lib.hid hr2
        have HL1 := Lib.hid hl1
        have HL2 := Lib.hid hl2
        clear hm ho hw hr1 hr2 hl1 hl2
        by_cases hlt : i < n
        case pos =>
          have t1 : decide ((i : Int) < (n : Int)) = true := by simp; omega
          have t1n : decide (i < n) = true := by simp; omega
          have i1 : (i : Int) < (n : Int) := by omega
          have w3 : IntKind.i64.wrap ((i : Int) + 1) = ((i + 1 : Nat) : Int) := by rw [IntKind.wrap_i64]; omega
          have hpos : 0 < n := by omega
          obtain rfl := HAA.out hpos
          obtain rfl := HBB.out hpos
          obtain ⟨n1, n2, n3⟩ := HNE.out hpos
          have HA1 := Lib.hid (show Below wr.heap.size wr (wr.alloc (.cells #[.int .i64 3] 3)) from (Below.refl _ _).alloc (Nat.le_refl _) _)
          have HM1 := Lib.hid (mkBelow HM.out HA1.out)
          obtain ⟨u1, z1⟩ := HM1.out.xa i hlt
          have f1 := HM1.out.fa i hlt
          rw [Nat.mul_one] at z1 f1
          obtain ⟨⟨ca, hca⟩, cb, hcb⟩ := HW.out hpos
          have hca1 := row_kept hca HA1.out
          have hcb1 := row_kept hcb HA1.out
          have HM2 := Lib.hid (show Mk 1 ((wr.alloc (.cells #[.int .i64 3] 3)).setCell ⟨gA, i, none⟩ (.slice (some ⟨wr.heap.size, 0, none⟩) 1 1)) gA gB gG gH n 40 (fun p => .slice (some ⟨addK LA i wr.heap.size p, 0, none⟩) 1 1) (fun p => .slice (some ⟨LB p, 0, none⟩) 1 1) (fun k => .slice (some ⟨KG k, 0, none⟩) 2 2) (fun k => .slice (some ⟨KH k, 0, none⟩) 2 2) (i + 1) i from by
            have h := (mkCongr HM1.out (ma' := fun p => .slice (some ⟨addK LA i wr.heap.size p, 0, none⟩) 1 1) (mb' := fun p => .slice (some ⟨LB p, 0, none⟩) 1 1) (fun p hp => by simp only [addK_lt LA hp]) (fun p hp => rfl)).setA (by decide) hlt n1 n2 (v := .slice (some ⟨wr.heap.size, 0, none⟩) 1 1) (by simp only [addK_self])
            rw [Nat.mul_one] at h
            exact h)
          have hn1 : (wr.alloc (.cells #[.int .i64 3] 3)).heap[wr.heap.size]? = some (.cells #[.int .i64 3] 3 (0, 0)) := alloc_at rfl
          have HL1a := Lib.hid (((HL1.out.kept HA1.out).add hn1).set (o := i) (u := .slice (some ⟨wr.heap.size, 0, none⟩) 1 1) hca1)
          have HL2a := Lib.hid ((HL2.out.kept HA1.out).set (o := i) (u := .slice (some ⟨wr.heap.size, 0, none⟩) 1 1) hca1)
          have HR1a := Lib.hid ((HR1.out.kept HA1.out).set (o := i) (u := .slice (some ⟨wr.heap.size, 0, none⟩) 1 1) hca1)
          have HR2a := Lib.hid ((HR2.out.kept HA1.out).set (o := i) (u := .slice (some ⟨wr.heap.size, 0, none⟩) 1 1) hca1)
          have hca2 := heap_setCell_same _ gA i _ _ (.slice (some ⟨wr.heap.size, 0, none⟩) 1 1) hca1
          have hcb2 := row_past hcb1 (grown_set (grown_refl (wr.alloc (.cells #[.int .i64 3] 3)) (some gA)) i (.slice (some ⟨wr.heap.size, 0, none⟩) 1 1)) (fun e => n1 (Option.some.inj e).symm)
          obtain ⟨W2, hW2⟩ : ∃ W2, W2 = (wr.alloc (.cells #[.int .i64 3] 3)).setCell ⟨gA, i, none⟩ (.slice (some ⟨wr.heap.size, 0, none⟩) 1 1) := ⟨_, rfl⟩
          have HO2 := Lib.hid (show Only (fun x => (Value.slice (some ⟨gA, 0, none⟩) n c).ownBlock = some x ∨ (Value.slice (some ⟨gB, 0, none⟩) n d).ownBlock = some x) w W2 from by
            rw [hW2]
            exact (HO.out.trans (T := fun _ => False) (Only.of_below HA1.out) (fun x hx => absurd hx id)).trans (T := fun x => gA = x) (Only.of_grown (grown_set (grown_refl _ (some gA)) i _) (fun x hx => by injection hx)) (fun x hx => .inl (.inl (by rw [← hx]; rfl))))
          rw [← hW2] at HM2 HL1a HL2a HR1a HR2a hca2 hcb2
          have HW2 := Lib.hid hW2
          have HSZ2 := Lib.hid (show W2.heap.size = wr.heap.size + 1 by rw [hW2]; simp)
          have HA3 := Lib.hid (show Below W2.heap.size W2 (W2.alloc (.cells #[.int .i64 4] 3)) from (Below.refl _ _).alloc (Nat.le_refl _) _)
          have HM3 := Lib.hid (mkBelow HM2.out HA3.out)
          obtain ⟨u2, z2⟩ := HM3.out.xb i hlt
          have f2 := HM3.out.fb i hlt
          rw [Nat.mul_one] at z2 f2
          have hcb3 := row_kept hcb2 HA3.out
          have hca3 := row_kept hca2 HA3.out
          have HM4 := Lib.hid (show Mk 1 ((W2.alloc (.cells #[.int .i64 4] 3)).setCell ⟨gB, i, none⟩ (.slice (some ⟨W2.heap.size, 0, none⟩) 1 1)) gA gB gG gH n 40 (fun p => .slice (some ⟨addK LA i wr.heap.size p, 0, none⟩) 1 1) (fun p => .slice (some ⟨addK LB i W2.heap.size p, 0, none⟩) 1 1) (fun k => .slice (some ⟨KG k, 0, none⟩) 2 2) (fun k => .slice (some ⟨KH k, 0, none⟩) 2 2) (i + 1) (i + 1) from by
            have h := (mkCongr HM3.out (ma' := fun p => .slice (some ⟨addK LA i wr.heap.size p, 0, none⟩) 1 1) (mb' := fun p => .slice (some ⟨addK LB i W2.heap.size p, 0, none⟩) 1 1) (fun p hp => rfl) (fun p hp => by simp only [addK_lt LB hp])).setB (by decide) hlt n1 n3 (v := .slice (some ⟨W2.heap.size, 0, none⟩) 1 1) (by simp only [addK_self])
            rw [Nat.mul_one] at h
            exact h)
          have hn3 : (W2.alloc (.cells #[.int .i64 4] 3)).heap[W2.heap.size]? = some (.cells #[.int .i64 4] 3 (0, 0)) := alloc_at rfl
          have HL1b := Lib.hid ((HL1a.out.kept HA3.out).set (o := i) (u := .slice (some ⟨W2.heap.size, 0, none⟩) 1 1) hcb3)
          have HL2b := Lib.hid (((HL2a.out.kept HA3.out).add hn3).set (o := i) (u := .slice (some ⟨W2.heap.size, 0, none⟩) 1 1) hcb3)
          have HR1b := Lib.hid ((HR1a.out.kept HA3.out).set (o := i) (u := .slice (some ⟨W2.heap.size, 0, none⟩) 1 1) hcb3)
          have HR2b := Lib.hid ((HR2a.out.kept HA3.out).set (o := i) (u := .slice (some ⟨W2.heap.size, 0, none⟩) 1 1) hcb3)
          have HWb := Lib.hid (show 0 < n → (∃ cs, ((W2.alloc (.cells #[.int .i64 4] 3)).setCell ⟨gB, i, none⟩ (.slice (some ⟨W2.heap.size, 0, none⟩) 1 1)).heap[gA]? = some (.cells cs 22 (0, 0))) ∧ ∃ cs, ((W2.alloc (.cells #[.int .i64 4] 3)).setCell ⟨gB, i, none⟩ (.slice (some ⟨W2.heap.size, 0, none⟩) 1 1)).heap[gB]? = some (.cells cs 22 (0, 0)) from fun _ =>
            ⟨⟨_, row_past hca3 (grown_set (grown_refl (W2.alloc (.cells #[.int .i64 4] 3)) (some gB)) i (.slice (some ⟨W2.heap.size, 0, none⟩) 1 1)) (fun e => n1 (Option.some.inj e))⟩, ⟨_, heap_setCell_same _ gB i _ _ (.slice (some ⟨W2.heap.size, 0, none⟩) 1 1) hcb3⟩⟩)
          have HO4 := Lib.hid (show Only (fun x => (Value.slice (some ⟨gA, 0, none⟩) n c).ownBlock = some x ∨ (Value.slice (some ⟨gB, 0, none⟩) n d).ownBlock = some x) w ((W2.alloc (.cells #[.int .i64 4] 3)).setCell ⟨gB, i, none⟩ (.slice (some ⟨W2.heap.size, 0, none⟩) 1 1)) from
            (HO2.out.trans (T := fun _ => False) (Only.of_below HA3.out) (fun x hx => absurd hx id)).trans (T := fun x => gB = x) (Only.of_grown (grown_set (grown_refl _ (some gB)) i _) (fun x hx => by injection hx)) (fun x hx => .inl (.inr (by rw [← hx]; rfl))))
          have HI := Lib.hid hlt
          clear n1 n2 n3 hlt hi HM HO HM1 HM2 HM3 HL1 HL2 HL1a HL2a HR1 HR2 HR1a HR2a hca hcb hca1 hcb1 hca2 hcb2 hca3 hcb3 hn1 hn3 HW HO2
          rw [hW2] at z2 f2
          clear hW2
          go_wp2
          rw [← HW2.out, ← HSZ2.out]
          go_roundw
          case rel => exact ⟨i + 1, _, _, HI.out, by go_num, HM4.out, HO4.out, HWb.out, HR1b.out, HR2b.out, HL1b.out, HL2b.out⟩
          case measure => have := HI.out; simp [intOf]; omega
        case neg =>
          have t1 : decide ((i : Int) < (n : Int)) = false := by simp; omega
          have t1n : decide (i < n) = false := by simp; omega
          obtain rfl : i = n := by omega
          clear hlt hi
          obtain ⟨wB, hwB⟩ : ∃ W, W = wr := ⟨_, rfl⟩
          subst hwB
          go_wp2
          go_loopw [9] (fun x9 wr => ∃ k : Nat, k ≤ i + 40 ∧ x9 = .int .i64 k ∧ wB = wr) (fun x9 _ => i + 40 - (intOf x9).toNat)
          case atStart => exact ⟨0, by omega, rfl, rfl⟩
          case round =>
            obtain ⟨k, hk, rfl, rfl⟩ := hrel
            by_cases hlt : k < i
            · have t2 : decide ((k : Int) < ((i : Int) + 40)) = true := by simp; omega
              have t2' : decide ((k : Int) < ((i + 40 : Nat) : Int)) = true := by simp; omega
              have t2n : decide (k < i + 40) = true := by simp; omega
              have t3 : decide ((k : Int) < (i : Int)) = true := by simp; omega
              have t3n : decide (k < i) = true := by simp; omega
              have t4 : decide ((k : Int) ≥ (i : Int)) = false := by simp; omega
              have t4n : decide (i ≤ k) = false := by simp; omega
              have t4' : decide ((i : Int) ≤ (k : Int)) = false := by simp; omega
              have i5 : (k : Int) < (i : Int) := by omega
              have i6 : (k : Int) < ((i : Int) + 40) := by omega
              have i7 : (k : Int) < ((i + 40 : Nat) : Int) := by omega
              have w3 : IntKind.i64.wrap ((k : Int) + 1) = ((k + 1 : Nat) : Int) := by rw [IntKind.wrap_i64]; omega
              obtain rfl := HAA.out (by omega)
              obtain rfl := HBB.out (by omega)
              have z1 := HM.out.ca k hlt
              have z2 := HM.out.cb k hlt
              rw [Nat.mul_one] at z1 z2
              have y1 : wB.cell? ⟨LA k, 0, none⟩ = some (.int .i64 3) := by rw [cell_of_row _ _ _ _ _ _ (HL1.out k hlt)]; rfl
              have y2 : wB.cell? ⟨LB k, 0, none⟩ = some (.int .i64 4) := by rw [cell_of_row _ _ _ _ _ _ (HL2.out k hlt)]; rfl
              have HK := Lib.hid hlt
              clear hlt hk
              go_wp2
              go_roundw
              case rel => exact ⟨k + 1, by have := HK.out; omega, by go_num, by trivial⟩
              case measure => have := HK.out; simp [intOf]; omega
            · by_cases hl2 : k < i + 40
              · obtain ⟨p, hp⟩ : ∃ p, k = i + p := ⟨k - i, by omega⟩
                have hp40 : p < 40 := by omega
                have z1 := HM.out.cg p hp40
                have z2 := HM.out.ch p hp40
                rw [Nat.mul_one, ← hp] at z1 z2
                have y1 : wB.cell? ⟨KG p, 1, none⟩ = some (.int .i64 1) := by rw [cell_of_row _ _ _ _ _ _ (HR1.out p hp40)]; rfl
                have y2 : wB.cell? ⟨KH p, 1, none⟩ = some (.int .i64 2) := by rw [cell_of_row _ _ _ _ _ _ (HR2.out p hp40)]; rfl
                have t2 : decide ((k : Int) < ((i : Int) + 40)) = true := by simp; omega
                have t2' : decide ((k : Int) < ((i + 40 : Nat) : Int)) = true := by simp; omega
                have t2n : decide (k < i + 40) = true := by simp; omega
                have t3 : decide ((k : Int) < (i : Int)) = false := by simp; omega
                have t3n : decide (k < i) = false := by simp; omega
                have t4 : decide ((k : Int) ≥ (i : Int)) = true := by simp; omega
                have t4n : decide (i ≤ k) = true := by simp; omega
                have t4' : decide ((i : Int) ≤ (k : Int)) = true := by simp; omega
                have i5 : ¬ (k : Int) < (i : Int) := by omega
                have i6 : (k : Int) < ((i : Int) + 40) := by omega
                have i7 : (k : Int) < ((i + 40 : Nat) : Int) := by omega
                have w3 : IntKind.i64.wrap ((k : Int) + 1) = ((k + 1 : Nat) : Int) := by rw [IntKind.wrap_i64]; omega
                have HK := Lib.hid hl2
                clear hlt hk hp hl2
                go_wp2
                go_roundw
                case rel => exact ⟨k + 1, by have := HK.out; omega, by go_num, by trivial⟩
                case measure => have := HK.out; simp [intOf]; omega
              · have t2 : decide ((k : Int) < ((i : Int) + 40)) = false := by simp; omega
                have t2' : decide ((k : Int) < ((i + 40 : Nat) : Int)) = false := by simp; omega
                have t2n : decide (k < i + 40) = false := by simp; omega
                clear hlt hk hl2
                go_wp2
                go_ret
                exact ⟨rfl, HO.out⟩
end Go.Proofs.Ytpikmcapnmdmbaa
