/-
  Layer 21: do lists share memory? They are written full of marks, gone on with, and looked at.
-/
import Derived.Test.YtpejcndfplbikaaApart
import Derived.Test.YtpejcndfplbikaaOb
namespace Go.Proofs.Ytpejcndfplbikaa
open Go.RowKit Go.K
set_option linter.unusedVariables false
set_option linter.unusedSimpArgs false
abbrev R3 := Option Addr × Nat × Nat
def mG1 (i k : Nat) : List Value := [.int .i64 (-(i : Int)), .int .i64 (k : Int), .int .u64 0]
def mG2 (i k : Nat) : List Value := [.int .i64 (1000 + (i : Int)), .int .i64 (k : Int), .int .u64 0]
def mI1 (i k : Nat) : List Value := [.int .i64 (-1000 * (i : Int) - (k : Int) - 1)]
def mI2 (i k : Nat) : List Value := [.int .i64 (1000 * (i : Int) + (k : Int))]
def ownS (l : List R3) (b : Nat) : Prop := ∃ r ∈ l, (rV r).ownBlock = some b
/-- Lists in blocks of their own. -/
structure Fam (B : Nat) (t : TypeId) (sz : Nat) (w : World) (l : List R3) : Prop where
  own : ∀ i (h : i < l.length), ∃ xs, w.ownsRow B t sz (rV l[i]) l[i].2.1 xs
  dis : ∀ i j (h : i < l.length) (h' : j < l.length), i ≠ j → ∀ b, (rV l[i]).ownBlock = some b → (rV l[j]).ownBlock ≠ some b
theorem Fam.only {B : Nat} {t : TypeId} {sz : Nat} {w w' : World} {l : List R3} {S : Nat → Prop} (h : Fam B t sz w l) (ho : Only S w w') (hn : ∀ b, ownS l b → ¬ S b) : Fam B t sz w' l :=
  ⟨fun i hi => by obtain ⟨xs, h1⟩ := h.own i hi; exact ⟨xs, ho.owns h1 (fun b hb => hn b ⟨_, List.getElem_mem hi, hb⟩)⟩, h.dis⟩
/-- A list of lists, as it lies. -/
theorem cont_at {W : World} {a : Option Addr} {l : List R3} (h : Sl W a (l.map rV)) (i : Nat) (hi : i < l.length) : ∃ b off, a = some ⟨b, off, none⟩ ∧ W.cell? ⟨b, off + i, none⟩ = some (.slice l[i].1 l[i].2.1 l[i].2.2) := by
  obtain ⟨b, off, he, hc⟩ := h (fun e => by have := congrArg List.length e; simp at this; rw [this] at hi; simp at hi)
  refine ⟨b, off, he, ?_⟩
  have h1 := hc i (by rw [List.length_map]; exact hi)
  rw [List.getElem?_map, List.getElem?_eq_getElem hi] at h1
  exact h1
theorem info66' : (Try.prog.info? 27).map (fun i => (i.zero, i.size, i.bytes)) = some (some (.slice none 0 0), 1, 24) := by kernel_rfl
theorem info68' : (Try.prog.info? 31).map (fun i => (i.zero, i.size, i.bytes)) = some (some (.slice none 0 0), 1, 24) := by kernel_rfl
theorem one_mG2 (i k : Nat) : ∀ u ∈ mG2 i k, u.oneCell' = true := by intro u hu; simp only [mG2, List.mem_cons, List.not_mem_nil, or_false] at hu; rcases hu with rfl | rfl | rfl <;> rfl
theorem one_mI2 (i k : Nat) : ∀ u ∈ mI2 i k, u.oneCell' = true := by intro u hu; simp only [mI2, List.mem_cons, List.not_mem_nil, or_false] at hu; subst hu; rfl
theorem sl_mark {W : World} {a : Option Addr} {mk : Nat → List Value} {n sz k : Nat} (h : Sl W a (flatM mk n)) (hm : ∀ q, (mk q).length = sz) (hk : k < n) (hz : 0 < sz) : ∃ b off, a = some ⟨b, off, none⟩ ∧ ∀ t v, t < sz → (mk k)[t]? = some v → W.cell? ⟨b, off + (k * sz + t), none⟩ = some v := by
  have hl := flatM_len hm n
  have h1 : (k + 1) * sz ≤ n * sz := Nat.mul_le_mul_right _ (by omega)
  rw [Nat.succ_mul] at h1
  have e : flatM mk n ≠ [] := fun e => by rw [e] at hl; simp at hl; omega
  obtain ⟨b, off, he, hc⟩ := h e
  refine ⟨b, off, he, fun t v ht hv => ?_⟩
  rw [hc _ (by rw [hl]; omega), flatM_get hm n k t hk ht]
  exact hv

set_option maxRecDepth 100000 in
set_option maxHeartbeats 8000000 in
theorem apart_any (B : Nat) (ls ms : List R3) (ra la : Option Addr) (rc lc : Nat) (w : World) (hll : ls.length ≤ 5500000000000) (hml : ms.length ≤ 5500000000000) (hnl : ∀ r ∈ ls, r.2.1 ≤ 5864062014500) (hnm : ∀ r ∈ ms, r.2.1 ≤ 17592186043904)
    (hcl : Sl w ra (ls.map rV)) (hcm : Sl w la (ms.map rV)) (hra : ∀ y, ra = some y → ¬ ownS ls y.block ∧ ¬ ownS ms y.block) (hla : ∀ y, la = some y → ¬ ownS ls y.block ∧ ¬ ownS ms y.block)
    (hfl : Fam B 64 3 w ls) (hfm : Fam B 3 1 w ms) (hx : ∀ b, ownS ls b → ¬ ownS ms b) (hB : B ≤ w.heap.size) :
    Calls Try.prog 33 #[.slice ra ls.length rc, .slice la ms.length lc] w fun r w' => r = .returned (.bool true) ∧ Only (fun b => ownS ls b ∨ ownS ms b) w w' := by
  have HFG := Lib.hid hfl
  have HFI := Lib.hid hfm
  have HNG := Lib.hid hnl
  have HNI := Lib.hid hnm
  have HX := Lib.hid hx
  have HRA := Lib.hid hra
  have HLA := Lib.hid hla
  have HCG := Lib.hid (show ∀ V, Only (ownS ls) w V → Sl V ra (ls.map rV) from fun V h => h.sl hcl (fun y hy _ => (hra y hy).1))
  have HCM := Lib.hid hcm
  clear hfl hfm hnl hnm hx hra hla hcl hcm
  go_enter Try.func33, Try.ntmps33
  go_wp2
  -- the marks of G
  go_loopw [5, 6] (fun i ii wr => ∃ j : Nat, j ≤ ls.length ∧ i = .int .i64 j ∧ Only (ownS ls) w wr ∧
      ∀ i' (h : i' < ls.length), RowA B 64 3 (mG1 i') wr ls[i'] (if i' < j then ls[i'].2.1 else 0)) (fun i _ _ => ls.length - (intOf i).toNat)
  case atStart => exact ⟨0, by omega, rfl, Only.refl _ _, fun i' h => by rw [if_neg (by omega)]; obtain ⟨xs, hx⟩ := HFG.out.own i' h; exact RowA.start hx⟩
  case round =>
    obtain ⟨j, hj, rfl, ho, hr⟩ := hrel
    have HO := Lib.hid ho
    have HR := Lib.hid hr
    clear ho hr
    by_cases hlt : j < ls.length
    case pos =>
      have t0 : decide ((j : Int) < (ls.length : Int)) = true := by simp; omega
      have i1 : (j : Int) < (ls.length : Int) := by omega
      have HCC := Lib.hid (fun V (h : Only (ownS ls) w V) => cont_at (HCG.out V h) j hlt)
      obtain ⟨cb, co, hce, _⟩ := HCC.out _ HO.out
      have HN := Lib.hid (HNG.out ls[j] (List.getElem_mem hlt))
      have HRJ := Lib.hid (show RowA B 64 3 (mG1 j) wr ls[j] 0 by have h := HR.out j hlt; rwa [if_neg (Nat.lt_irrefl j)] at h)
      have HRO := Lib.hid (fun i' (h : i' < ls.length) (hne : i' ≠ j) => HR.out i' h)
      have HAJ := Lib.hid (fun i' (h : i' < ls.length) (hne : i' ≠ j) => HFG.out.dis j i' hlt h (fun e => hne e.symm))
      have HEJ := Lib.hid (show ∀ i' (h : i' < ls.length), i' = j → ls[i'] = ls[j] from fun i' h e => by subst e; rfl)
      have HSJ := Lib.hid (show ∀ b, (rV ls[j]).ownBlock = some b → ownS ls b from fun b hb => ⟨_, List.getElem_mem hlt, hb⟩)
      generalize ls[j] = rj at HCC HN HRJ HAJ HEJ HSJ
      obtain ⟨a, n, c⟩ := rj
      have hn : n ≤ 5864062014500 := HN.out
      subst hce
      have HCC := Lib.hid (fun V (h : Only (ownS ls) w V) => (show V.cell? ⟨cb, co + j, none⟩ = some (.slice a n c) by obtain ⟨b', o', e', h'⟩ := HCC.out V h; cases e'; exact h'))
      have z1 := HCC.out _ HO.out
      clear HR
      go_wp2
      go_loopw [6] (fun i wq => ∃ k : Nat, k ≤ n ∧ i = .int .i64 k ∧ Only (ownS ls) w wq ∧ RowA B 64 3 (mG1 j) wq (a, n, c) k ∧
          ∀ i' (h : i' < ls.length), i' ≠ j → RowA B 64 3 (mG1 i') wq ls[i'] (if i' < j then ls[i'].2.1 else 0)) (fun i _ => n - (intOf i).toNat)
      case atStart => exact ⟨0, by omega, rfl, HO.out, HRJ.out, fun i' h hne => HRO.out i' h hne⟩
      case round =>
        clear HO HRJ HRO z1
        obtain ⟨k, hk, rfl, ho, hrj, hro⟩ := hrel
        have HO := Lib.hid ho
        have HRJ := Lib.hid hrj
        have HRO := Lib.hid hro
        clear ho hrj hro
        have z1 := HCC.out _ HO.out
        by_cases hlk : k < n
        case pos =>
          have t1 : decide ((k : Int) < (n : Int)) = true := by simp; omega
          have i2 : (k : Int) < (n : Int) := by omega
          obtain ⟨g, cur, hga, hrow, hsz, hmk⟩ := HRJ.out.mark (fun q => rfl) hlk
          have hga : a = some ⟨g, 0, none⟩ := hga
          try simp only [Nat.mul_one] at hsz hmk
          subst hga
          have HRW := Lib.hid hrow
          have HMK := Lib.hid hmk
          have hSg := HSJ.out g rfl
          clear hrow hmk HRJ
          have hw1 : IntKind.i64.wrap (-(j : Int)) = -(j : Int) := by rw [IntKind.wrap_i64]; omega
          have hw2 : IntKind.i64.wrap (-1000 * (j : Int)) = -1000 * (j : Int) := by rw [IntKind.wrap_i64]; omega
          have hw3 : IntKind.i64.wrap (-1000 * (j : Int) - (k : Int)) = -1000 * (j : Int) - (k : Int) := by rw [IntKind.wrap_i64]; omega
          have hw4 : IntKind.i64.wrap (-1000 * (j : Int) - (k : Int) - 1) = -1000 * (j : Int) - (k : Int) - 1 := by rw [IntKind.wrap_i64]; omega
          go_wp2_with ((with_reducible refine at_store_op ?_); refine wpList_store_lit 64 g (k * 3) (cur.toList.take (k * 3) ++ mG1 j k ++ cur.toList.drop (k * 3 + 3)).toArray (.agg #[.int .i64 (-(j : Int)), .int .i64 (k : Int), .int .u64 0]) HRW.out szG (by show k * 3 + 3 ≤ cur.size; omega) rfl rfl ?_ ?_ ?_; exact rfl; exact rfl; intro w3 hp3)
          go_roundw
          case rel =>
            exact ⟨k + 1, by omega, by go_num, HO.out.trans hp3.only (fun n hn => .inl (hn ▸ hSg)), HMK.out _ hp3, fun i' h hne => (HRO.out i' h hne).only hp3.only (fun b hb hb2 => HAJ.out i' h hne g rfl (hb2 ▸ hb))⟩
          case measure => simp [intOf]; omega
        case neg =>
          have t1 : decide ((k : Int) < (n : Int)) = false := by simp; omega
          go_wp2
          go_roundw
          case rel =>
            refine ⟨j + 1, by omega, by go_num, HO.out, fun i' h => ?_⟩
            by_cases e : i' = j
            · rw [HEJ.out i' h e, e, if_pos (by omega)]
              have : k = n := by omega
              exact this ▸ HRJ.out
            · by_cases e2 : i' < j
              · rw [if_pos (by omega)]; simpa [e2] using HRO.out i' h e
              · rw [if_neg (by omega)]; simpa [e2] using HRO.out i' h e
          case measure => simp [intOf]; omega
    case neg =>
      have t0 : decide ((j : Int) < (ls.length : Int)) = false := by simp; omega
      obtain ⟨w2, hw2⟩ : ∃ W, W = wr := ⟨_, rfl⟩
      subst hw2
      have HO2 := HO
      have HWG := Lib.hid (fun i' (h : i' < ls.length) => (show RowA B 64 3 (mG1 i') w2 ls[i'] ls[i'].2.1 by have := HR.out i' h; rwa [if_pos (by omega)] at this).full)
      have HFI := Lib.hid (HFI.out.only HO2.out (fun b hb hb2 => HX.out b hb2 hb))
      have HCI := Lib.hid (show ∀ V, Only (ownS ms) w2 V → Sl V la (ms.map rV) from fun V h => h.sl (HO2.out.sl HCM.out (fun y hy _ => (HLA.out y hy).1)) (fun y hy _ => (HLA.out y hy).2))
      clear HO HR
      go_wp2
      -- the marks of I
      go_loopw [7, 8] (fun i ii wr => ∃ j : Nat, j ≤ ms.length ∧ i = .int .i64 j ∧ Only (ownS ms) w2 wr ∧
          ∀ i' (h : i' < ms.length), RowA B 3 1 (mI1 i') wr ms[i'] (if i' < j then ms[i'].2.1 else 0)) (fun i _ _ => ms.length - (intOf i).toNat)
      case atStart => exact ⟨0, by omega, rfl, Only.refl _ _, fun i' h => by rw [if_neg (by omega)]; obtain ⟨xs, hx⟩ := HFI.out.own i' h; exact RowA.start hx⟩
      case round =>
        obtain ⟨j, hj, rfl, ho, hr⟩ := hrel
        have HO := Lib.hid ho
        have HR := Lib.hid hr
        clear ho hr
        by_cases hlt : j < ms.length
        case pos =>
          have t0 : decide ((j : Int) < (ms.length : Int)) = true := by simp; omega
          have i1 : (j : Int) < (ms.length : Int) := by omega
          have HCC := Lib.hid (fun V (h : Only (ownS ms) w2 V) => cont_at (HCI.out V h) j hlt)
          obtain ⟨cb, co, hce, _⟩ := HCC.out _ HO.out
          have HN := Lib.hid (HNI.out ms[j] (List.getElem_mem hlt))
          have HRJ := Lib.hid (show RowA B 3 1 (mI1 j) wr ms[j] 0 by have h := HR.out j hlt; rwa [if_neg (Nat.lt_irrefl j)] at h)
          have HRO := Lib.hid (fun i' (h : i' < ms.length) (hne : i' ≠ j) => HR.out i' h)
          have HAJ := Lib.hid (fun i' (h : i' < ms.length) (hne : i' ≠ j) => HFI.out.dis j i' hlt h (fun e => hne e.symm))
          have HEJ := Lib.hid (show ∀ i' (h : i' < ms.length), i' = j → ms[i'] = ms[j] from fun i' h e => by subst e; rfl)
          have HSJ := Lib.hid (show ∀ b, (rV ms[j]).ownBlock = some b → ownS ms b from fun b hb => ⟨_, List.getElem_mem hlt, hb⟩)
          generalize ms[j] = rj at HCC HN HRJ HAJ HEJ HSJ
          obtain ⟨a, n, c⟩ := rj
          have hn : n ≤ 17592186043904 := HN.out
          subst hce
          have HCC := Lib.hid (fun V (h : Only (ownS ms) w2 V) => (show V.cell? ⟨cb, co + j, none⟩ = some (.slice a n c) by obtain ⟨b', o', e', h'⟩ := HCC.out V h; cases e'; exact h'))
          have z1 := HCC.out _ HO.out
          clear HR
          go_wp2
          go_loopw [8] (fun i wq => ∃ k : Nat, k ≤ n ∧ i = .int .i64 k ∧ Only (ownS ms) w2 wq ∧ RowA B 3 1 (mI1 j) wq (a, n, c) k ∧
              ∀ i' (h : i' < ms.length), i' ≠ j → RowA B 3 1 (mI1 i') wq ms[i'] (if i' < j then ms[i'].2.1 else 0)) (fun i _ => n - (intOf i).toNat)
          case atStart => exact ⟨0, by omega, rfl, HO.out, HRJ.out, fun i' h hne => HRO.out i' h hne⟩
          case round =>
            clear HO HRJ HRO z1
            obtain ⟨k, hk, rfl, ho, hrj, hro⟩ := hrel
            have HO := Lib.hid ho
            have HRJ := Lib.hid hrj
            have HRO := Lib.hid hro
            clear ho hrj hro
            have z1 := HCC.out _ HO.out
            by_cases hlk : k < n
            case pos =>
              have t1 : decide ((k : Int) < (n : Int)) = true := by simp; omega
              have i2 : (k : Int) < (n : Int) := by omega
              obtain ⟨g, cur, hga, hrow, hsz, hmk⟩ := HRJ.out.mark (fun q => rfl) hlk
              have hga : a = some ⟨g, 0, none⟩ := hga
              try simp only [Nat.mul_one] at hsz hmk
              subst hga
              have HRW := Lib.hid hrow
              have HMK := Lib.hid hmk
              have hSg := HSJ.out g rfl
              clear hrow hmk HRJ
              have hw1 : IntKind.i64.wrap (-(j : Int)) = -(j : Int) := by rw [IntKind.wrap_i64]; omega
              have hw2 : IntKind.i64.wrap (-1000 * (j : Int)) = -1000 * (j : Int) := by rw [IntKind.wrap_i64]; omega
              have hw3 : IntKind.i64.wrap (-1000 * (j : Int) - (k : Int)) = -1000 * (j : Int) - (k : Int) := by rw [IntKind.wrap_i64]; omega
              have hw4 : IntKind.i64.wrap (-1000 * (j : Int) - (k : Int) - 1) = -1000 * (j : Int) - (k : Int) - 1 := by rw [IntKind.wrap_i64]; omega
              go_wp2_with ((with_reducible refine at_store_op ?_); refine wpList_store_lit 3 g (k) (cur.toList.take (k) ++ mI1 j k ++ cur.toList.drop (k + 1)).toArray (.int .i64 (-1000 * (j : Int) - (k : Int) - 1)) HRW.out sz3 (by show k + 1 ≤ cur.size; omega) rfl rfl ?_ ?_ ?_; exact rfl; exact rfl; intro w3 hp3)
              go_roundw
              case rel =>
                exact ⟨k + 1, by omega, by go_num, HO.out.trans hp3.only (fun n hn => .inl (hn ▸ hSg)), HMK.out _ hp3, fun i' h hne => (HRO.out i' h hne).only hp3.only (fun b hb hb2 => HAJ.out i' h hne g rfl (hb2 ▸ hb))⟩
              case measure => simp [intOf]; omega
            case neg =>
              have t1 : decide ((k : Int) < (n : Int)) = false := by simp; omega
              go_wp2
              go_roundw
              case rel =>
                refine ⟨j + 1, by omega, by go_num, HO.out, fun i' h => ?_⟩
                by_cases e : i' = j
                · rw [HEJ.out i' h e, e, if_pos (by omega)]
                  have : k = n := by omega
                  exact this ▸ HRJ.out
                · by_cases e2 : i' < j
                  · rw [if_pos (by omega)]; simpa [e2] using HRO.out i' h e
                  · rw [if_neg (by omega)]; simpa [e2] using HRO.out i' h e
              case measure => simp [intOf]; omega
        case neg =>
          have t0 : decide ((j : Int) < (ms.length : Int)) = false := by simp; omega
          obtain ⟨w3, hw3⟩ : ∃ W, W = wr := ⟨_, rfl⟩
          subst hw3
          have HO3 := HO
          have HWI := Lib.hid (fun i' (h : i' < ms.length) => (show RowA B 3 1 (mI1 i') w3 ms[i'] ms[i'].2.1 by have := HR.out i' h; rwa [if_pos (by omega)] at this).full)
          have HWG := Lib.hid (fun i' (h : i' < ls.length) => HO3.out.owns (HWG.out i' h) (fun b hb hb2 => HX.out b ⟨_, List.getElem_mem h, hb⟩ hb2))
          have HKG := Lib.hid (show ∀ V, Only (ownS ls) w3 V → Sl V ra (ls.map rV) from fun V h => h.sl (HO3.out.sl (HCG.out _ HO2.out) (fun y hy _ => (HRA.out y hy).2)) (fun y hy _ => (HRA.out y hy).1))
          have HTG := Lib.hid (show ∀ b, ownS ls b → b < w3.heap.size from fun b ⟨r, hr, hb⟩ => by obtain ⟨i', h, rfl⟩ := List.getElem_of_mem hr; exact ((HWG.out i' h).lt b hb).2)
          have HTI := Lib.hid (show ∀ b, ownS ms b → b < w3.heap.size from fun b ⟨r, hr, hb⟩ => by obtain ⟨i', h, rfl⟩ := List.getElem_of_mem hr; exact ((HWI.out i' h).lt b hb).2)
          have HBW := Lib.hid (show B ≤ w3.heap.size from Nat.le_trans hB (Nat.le_trans HO2.out.size HO3.out.size))
          clear HO HR
          go_wp2
          -- the going on of G
          go_loopw [9, 10, 11, 12] (fun v' i x11 x12 wr => ∃ (j : Nat) (v : Value) (us : List Value), v = v' ∧ j ≤ ls.length ∧ i = .int .i64 j ∧ Only (ownS ls) w3 wr ∧ us.length = j ∧ wr.ownsRow w3.heap.size 27 1 v j us ∧
              (∀ i' (h : i' < ls.length), Sl wr ls[i'].1 (flatM (mG1 i') ls[i'].2.1)) ∧ (∀ i' (h : i' < ls.length), j ≤ i' → wr.ownsRow B 64 3 (rV ls[i']) ls[i'].2.1 (flatM (mG1 i') ls[i'].2.1)) ∧
              ∀ i' (h : i' < ls.length) u, us[i']? = some u → LongA B 64 3 (mG2 i') wr ls[i'].2.1 40 u ∧ (u.ownBlock = (rV ls[i']).ownBlock ∨ ∃ b, u.ownBlock = some b ∧ w3.heap.size ≤ b)) (fun _ i _ _ _ => ls.length - (intOf i).toNat)
          case atStart => exact ⟨0, _, [], rfl, by omega, rfl, Only.refl _ _, rfl, World.ownsRow_nil _ _ _ _, fun i' h => owns_sl (HWG.out i' h), fun i' h _ => HWG.out i' h, fun i' h u hu => by simp at hu⟩
          case round =>
            obtain ⟨j, v, us, hv, hj, rfl, ho, hul, hou, hsl, how, hlo⟩ := hrel
            subst hv
            have HO := Lib.hid ho
            have HUL := Lib.hid hul
            have HOU := Lib.hid hou
            have HSLS := Lib.hid hsl
            have HOW := Lib.hid how
            have HLO := Lib.hid hlo
            clear ho hul hou hsl how hlo
            obtain ⟨w4, hw4⟩ : ∃ W, W = wr := ⟨_, rfl⟩
            subst hw4
            by_cases hlt : j < ls.length
            case pos =>
              have t0 : decide ((j : Int) < (ls.length : Int)) = true := by simp; omega
              have i1 : (j : Int) < (ls.length : Int) := by omega
              obtain ⟨cb, co, hce, z1⟩ := cont_at (HKG.out w4 HO.out) j hlt
              have HN := Lib.hid (HNG.out ls[j] (List.getElem_mem hlt))
              have HOJ := Lib.hid (HOW.out j hlt (Nat.le_refl j))
              have HAJ := Lib.hid (fun i' (h : i' < ls.length) (hne : i' ≠ j) => HFG.out.dis j i' hlt h (fun e => hne e.symm))
              have HEJ := Lib.hid (show ∀ i' (h : i' < ls.length), i' = j → ls[i'] = ls[j] from fun i' h e => by subst e; rfl)
              have HSJ := Lib.hid (show ∀ b, (rV ls[j]).ownBlock = some b → ownS ls b from fun b hb => ⟨_, List.getElem_mem hlt, hb⟩)
              generalize ls[j] = rj at z1 HN HOJ HAJ HEJ HSJ
              obtain ⟨a, n, c⟩ := rj
              have hn : n ≤ 5864062014500 := HN.out
              have HLJ := Lib.hid (show ∀ b, (rV (a, n, c)).ownBlock = some b → b < w3.heap.size from fun b hb => HTG.out b (HSJ.out b hb))
              simp only at z1
              subst hce
              go_wp2
              go_loopw [11, 12] (fun v' i wq => ∃ (k : Nat) (v7 : Value), v7 = v' ∧ k ≤ 40 ∧ i = .int .i64 k ∧ GoA B 64 3 (mG1 j) (mG2 j) w4 wq (a, n, c) k v7) (fun _ i _ => 40 - (intOf i).toNat)
              case atStart => exact ⟨0, _, rfl, by omega, rfl, GoA.start HOJ.out⟩
              case round =>
                obtain ⟨k, v7, hv7, hk, rfl, hg⟩ := hrel
                subst hv7
                have HG := Lib.hid hg
                clear hg z1
                by_cases hlk : k < 40
                case pos =>
                  have t1 : decide ((k : Int) < 40) = true := by simp; omega
                  have hw1 : IntKind.i64.wrap (1000 + (j : Int)) = 1000 + (j : Int) := by rw [IntKind.wrap_i64]; omega
                  have hw2 : IntKind.i64.wrap (1000 * (j : Int)) = 1000 * (j : Int) := by rw [IntKind.wrap_i64]; omega
                  have hw3 : IntKind.i64.wrap (1000 * (j : Int) + (k : Int)) = 1000 * (j : Int) + (k : Int) := by rw [IntKind.wrap_i64]; omega
                  have h63 : n + k + 1 ≤ maxLen := by unfold maxLen; omega
                  have hby : (n + k + 1) * 24 ≤ 140737488355328 := by omega
                  have hbs : B ≤ (wr.alloc (.cells #[.int .i64 (1000 + (j : Int)), .int .i64 (k : Int), .int .u64 0] 64)).heap.size := by have h1 := HG.out.only.size; have h2 := HO.out.size; have h3 := HBW.out; simp; omega
                  go_wp2_with (at_builtin; refine wpList_append_two rfl _ _ 27 rfl B 64 (.agg #[.int .i64 0, .int .i64 0, .int .u64 0]) 3 24 Try.underlying27 infoG rfl (by decide) v7 (n + k) (flatM (mG1 j) n ++ flatM (mG2 j) k) (by rfl) (HG.out.own.alloc _) ⟨wr.heap.size, 0, none⟩ 1 1 (mG2 j k) (by rfl) (by decide) (by rfl) (sl_new _ _ _ _) (one_mG2 j k) h63 hby hbs ?hiG)
                  intro v2 w5 ho2 hg2 hl2
                  have HG2 := Lib.hid (HG.out.next (by first | exact ho2 | (rw [List.append_assoc]; exact ho2)) hg2 (by simpa only [World.size_alloc, ne_eq] using hl2))
                  clear ho2 hg2 hl2
                  go_wp2
                  go_roundw
                  case rel => exact ⟨k + 1, _, rfl, by omega, by go_num, HG2.out⟩
                  case measure => simp [intOf]; omega
                case neg =>
                  have t1 : decide ((k : Int) < 40) = false := by simp; omega
                  have HG40 := Lib.hid (show GoA B 64 3 (mG1 j) (mG2 j) w4 wr (a, n, c) 40 v7 by have h := HG.out; rw [show k = 40 by omega] at h; exact h)
                  clear HG
                  obtain ⟨g7, c7, cur7, hv7, -⟩ := owns_cases HG40.out.own (by omega)
                  subst hv7
                  have HOV := Lib.hid (show wr.ownsRow w3.heap.size 27 1 v j us from HG40.out.only.owns HOU.out (fun b hb hb2 => by have h1 := (HOU.out.lt b hb).1; have h2 := HLJ.out b hb2; omega))
                  have h1c : ∀ u ∈ ([.slice (some ⟨g7, 0, none⟩) (n + 40) c7] : List Value), u.oneCell' = true := by intro u hu; rw [List.mem_singleton] at hu; subst hu; rfl
                  have h63 : j + 1 ≤ maxLen := by unfold maxLen; omega
                  have hby : (j + 1) * 24 ≤ 140737488355328 := by omega
                  have hbs : w3.heap.size ≤ (wr.alloc (.cells #[.slice (some ⟨g7, 0, none⟩) (n + 40) c7] 27)).heap.size := by have h1 := HG40.out.only.size; have h2 := HO.out.size; simp; omega
                  go_wp2_with (at_builtin; refine wpList_append_sl_at rfl _ _ 66 rfl w3.heap.size 27 (.slice none 0 0) 1 24 Try.underlying66 info66' rfl (by decide) v j us (by rfl) (HOV.out.alloc _) (some ⟨wr.heap.size, 0, none⟩) 1 1 [.slice (some ⟨g7, 0, none⟩) (n + 40) c7] (by rfl) (fun h => by cases h) (by rfl) (sl_new _ _ _ _) h1c h63 hby hbs ?hoG)
                  intro v2 w5 ho2 hg2 hl2
                  have hal : Below wr.heap.size wr (wr.alloc (.cells #[.slice (some ⟨g7, 0, none⟩) (n + 40) c7] 27)) := (Below.refl _ _).alloc (Nat.le_refl _) _
                  have hvn : ∀ b, v.ownBlock = some b → w3.heap.size ≤ b := fun b hb => (HOU.out.lt b hb).1
                  have HO5 := Lib.hid (show Only (ownS ls) w3 w5 from (HO.out.trans (HG40.out.only.mono (fun b hb => HSJ.out b hb)) (fun b hb => .inl hb)).trans (T := fun b => v.ownBlock = some b) ((Only.of_below hal).trans (Only.of_grown (S := fun b => v.ownBlock = some b) hg2 (fun b hb => hb)) (fun b hb => .inl hb)) (fun b hb => .inr (hvn b hb)))
                  have hsl5 : ∀ {a' : Option Addr} {vs : List Value}, (∀ y, a' = some y → y.block < w3.heap.size) → Sl wr a' vs → Sl w5 a' vs := fun ha h => sl_grown (h.kept hal) hg2 (fun b off e e2 => by have h1 := ha _ e; have h2 := hvn b e2.symm; simp only at h1; omega)
                  have hbl : ∀ i' (h : i' < ls.length) y, ls[i'].1 = some y → (rV ls[i']).ownBlock = some y.block := fun i' h y e => by unfold rV; rw [e]; rfl
                  have HS5 := Lib.hid (show ∀ i' (h : i' < ls.length), Sl w5 ls[i'].1 (flatM (mG1 i') ls[i'].2.1) from fun i' h => by
                    refine hsl5 (fun y e => HTG.out _ ⟨_, List.getElem_mem h, hbl i' h y e⟩) ?_
                    by_cases e : i' = j
                    · rw [HEJ.out i' h e, e]; exact HG40.out.sl
                    · exact HG40.out.only.sl (HSLS.out i' h) (fun y ey _ hb => HAJ.out i' h e _ hb (hbl i' h y ey)))
                  have HW5 := Lib.hid (show ∀ i' (h : i' < ls.length), j + 1 ≤ i' → w5.ownsRow B 64 3 (rV ls[i']) ls[i'].2.1 (flatM (mG1 i') ls[i'].2.1) from fun i' h hi => by
                    have h1 := HG40.out.only.owns (HOW.out i' h (by omega)) (fun b hb hb2 => HAJ.out i' h (by omega) b hb2 hb)
                    exact (h1.alloc _).kept hg2 (by
                      cases hb : (rV ls[i']).ownBlock with
                      | none => exact .inl rfl
                      | some b =>
                        refine .inr (fun e => ?_)
                        have h2 := hvn b e.symm
                        have h3 := HTG.out b ⟨_, List.getElem_mem h, hb⟩
                        omega))
                  have HL5 := Lib.hid (show ∀ i' (h : i' < ls.length) u, (us ++ [Value.slice (some ⟨g7, 0, none⟩) (n + 40) c7])[i']? = some u → LongA B 64 3 (mG2 i') w5 ls[i'].2.1 40 u ∧ (u.ownBlock = (rV ls[i']).ownBlock ∨ ∃ b, u.ownBlock = some b ∧ w3.heap.size ≤ b) from fun i' h u hu => by
                    have hlong : ∀ {u : Value} {m : Nat}, LongA B 64 3 (mG2 i') wr m 40 u → LongA B 64 3 (mG2 i') w5 m 40 u := fun ⟨xs, h1, h2⟩ => ⟨xs, h1, (h2.alloc _).kept hg2 (owns_apart h2 HOV.out (by decide))⟩
                    have hul := HUL.out
                    by_cases e : i' < us.length
                    · rw [List.getElem?_append_left e] at hu
                      obtain ⟨q1, q2⟩ := HLO.out i' h u hu
                      refine ⟨hlong (q1.only HG40.out.only (fun b hb hb2 => ?_)), q2⟩
                      rcases q2 with q2 | ⟨b3, q2, q3⟩
                      · rw [q2] at hb; exact HAJ.out i' h (by omega) b hb2 hb
                      · rw [q2] at hb; injection hb with hb; have := HLJ.out b hb2; omega
                    · have e2 : i' < (us ++ [Value.slice (some ⟨g7, 0, none⟩) (n + 40) c7]).length := (List.getElem?_eq_some_iff.1 hu).1
                      have e3 : i' = j := by simp at e2; omega
                      rw [List.getElem?_append_right (by omega), show i' - us.length = 0 by omega] at hu
                      have e4 := Option.some.inj hu
                      subst e4
                      have e5 := HEJ.out i' h e3
                      rw [e5]
                      refine ⟨hlong ⟨_, flatM_len (mk := mG1 j) (fun q => rfl) _, by rw [e3]; exact HG40.out.own⟩, ?_⟩
                      rcases HG40.out.at' with q | ⟨b, q1, q2⟩
                      · exact .inl q
                      · exact .inr ⟨b, q1, by have := HO.out.size; omega⟩)
                  have HO2 := Lib.hid ho2
                  clear ho2 hg2 hl2 hal hvn hsl5 hbl
                  go_wp2
                  go_roundw
                  case rel => exact ⟨j + 1, _, _, rfl, by omega, by go_num, HO5.out, by have := HUL.out; simp; omega, HO2.out, HS5.out, HW5.out, HL5.out⟩
                  case measure => simp [intOf]; omega
            case neg =>
              have t0 : decide ((j : Int) < (ls.length : Int)) = false := by simp; omega
              obtain ⟨wb, hwb⟩ : ∃ W, W = w4 := ⟨_, rfl⟩
              subst hwb
              have HO4 := HO
              have HVB := Lib.hid (show wb.ownsRow w3.heap.size 27 1 v ls.length us by rw [show ls.length = j by omega]; exact HOU.out)
              have HUB := Lib.hid (show us.length = ls.length by have := HUL.out; omega)
              have HMB := HSLS
              have HLB := HLO
              have HTI3 := HTI
              have HWI := Lib.hid (fun i' (h : i' < ms.length) => HO4.out.owns (HWI.out i' h) (fun b hb hb2 => HX.out b hb2 ⟨_, List.getElem_mem h, hb⟩))
              have HKI := Lib.hid (show ∀ V, Only (ownS ms) wb V → Sl V la (ms.map rV) from fun V h => h.sl (HO4.out.sl (HCI.out _ HO3.out) (fun y hy _ => (HLA.out y hy).1)) (fun y hy _ => (HLA.out y hy).2))
              have HYB := Lib.hid (HKG.out wb HO4.out)
              have HTI := Lib.hid (show ∀ b, ownS ms b → b < wb.heap.size from fun b ⟨r, hr, hb⟩ => by obtain ⟨i', h, rfl⟩ := List.getElem_of_mem hr; exact ((HWI.out i' h).lt b hb).2)
              have HBW := Lib.hid (show B ≤ wb.heap.size from Nat.le_trans HBW.out HO4.out.size)
              clear HO HOU HSLS HOW HLO HUL
              go_wp2
              -- the going on of I
              go_loopw [13, 14, 15, 16] (fun v' i x11 x12 wr => ∃ (j : Nat) (vL : Value) (us_ : List Value), vL = v' ∧ j ≤ ms.length ∧ i = .int .i64 j ∧ Only (ownS ms) wb wr ∧ us_.length = j ∧ wr.ownsRow wb.heap.size 31 1 vL j us_ ∧
                  (∀ i' (h : i' < ms.length), Sl wr ms[i'].1 (flatM (mI1 i') ms[i'].2.1)) ∧ (∀ i' (h : i' < ms.length), j ≤ i' → wr.ownsRow B 3 1 (rV ms[i']) ms[i'].2.1 (flatM (mI1 i') ms[i'].2.1)) ∧
                  ∀ i' (h : i' < ms.length) u, us_[i']? = some u → LongA B 3 1 (mI2 i') wr ms[i'].2.1 40 u ∧ (u.ownBlock = (rV ms[i']).ownBlock ∨ ∃ b, u.ownBlock = some b ∧ wb.heap.size ≤ b)) (fun _ i _ _ _ => ms.length - (intOf i).toNat)
              case atStart => exact ⟨0, _, [], rfl, by omega, rfl, Only.refl _ _, rfl, World.ownsRow_nil _ _ _ _, fun i' h => owns_sl (HWI.out i' h), fun i' h _ => HWI.out i' h, fun i' h u hu => by simp at hu⟩
              case round =>
                obtain ⟨j, vL, us_, hv, hj, rfl, ho, hul, hou, hsl, how, hlo⟩ := hrel
                subst hv
                have HO := Lib.hid ho
                have HUL := Lib.hid hul
                have HOU := Lib.hid hou
                have HSLS := Lib.hid hsl
                have HOW := Lib.hid how
                have HLO := Lib.hid hlo
                clear ho hul hou hsl how hlo
                obtain ⟨w4, hw4⟩ : ∃ W, W = wr := ⟨_, rfl⟩
                subst hw4
                by_cases hlt : j < ms.length
                case pos =>
                  have t0 : decide ((j : Int) < (ms.length : Int)) = true := by simp; omega
                  have i1 : (j : Int) < (ms.length : Int) := by omega
                  obtain ⟨cb, co, hce, z1⟩ := cont_at (HKI.out w4 HO.out) j hlt
                  have HN := Lib.hid (HNI.out ms[j] (List.getElem_mem hlt))
                  have HOJ := Lib.hid (HOW.out j hlt (Nat.le_refl j))
                  have HAJ := Lib.hid (fun i' (h : i' < ms.length) (hne : i' ≠ j) => HFI.out.dis j i' hlt h (fun e => hne e.symm))
                  have HEJ := Lib.hid (show ∀ i' (h : i' < ms.length), i' = j → ms[i'] = ms[j] from fun i' h e => by subst e; rfl)
                  have HSJ := Lib.hid (show ∀ b, (rV ms[j]).ownBlock = some b → ownS ms b from fun b hb => ⟨_, List.getElem_mem hlt, hb⟩)
                  generalize ms[j] = rj at z1 HN HOJ HAJ HEJ HSJ
                  obtain ⟨a, n, c⟩ := rj
                  have hn : n ≤ 17592186043904 := HN.out
                  have HLJ := Lib.hid (show ∀ b, (rV (a, n, c)).ownBlock = some b → b < wb.heap.size from fun b hb => HTI.out b (HSJ.out b hb))
                  simp only at z1
                  subst hce
                  go_wp2
                  go_loopw [15, 16] (fun v' i wq => ∃ (k : Nat) (v7 : Value), v7 = v' ∧ k ≤ 40 ∧ i = .int .i64 k ∧ GoA B 3 1 (mI1 j) (mI2 j) w4 wq (a, n, c) k v7) (fun _ i _ => 40 - (intOf i).toNat)
                  case atStart => exact ⟨0, _, rfl, by omega, rfl, GoA.start HOJ.out⟩
                  case round =>
                    obtain ⟨k, v7, hv7, hk, rfl, hg⟩ := hrel
                    subst hv7
                    have HG := Lib.hid hg
                    clear hg z1
                    by_cases hlk : k < 40
                    case pos =>
                      have t1 : decide ((k : Int) < 40) = true := by simp; omega
                      have hw1 : IntKind.i64.wrap (1000 + (j : Int)) = 1000 + (j : Int) := by rw [IntKind.wrap_i64]; omega
                      have hw2 : IntKind.i64.wrap (1000 * (j : Int)) = 1000 * (j : Int) := by rw [IntKind.wrap_i64]; omega
                      have hw3 : IntKind.i64.wrap (1000 * (j : Int) + (k : Int)) = 1000 * (j : Int) + (k : Int) := by rw [IntKind.wrap_i64]; omega
                      have h63 : n + k + 1 ≤ maxLen := by unfold maxLen; omega
                      have hby : (n + k + 1) * 8 ≤ 140737488355328 := by omega
                      have hbs : B ≤ (wr.alloc (.cells #[.int .i64 (1000 * (j : Int) + (k : Int))] 3)).heap.size := by have h1 := HG.out.only.size; have h2 := HO.out.size; have h3 := HBW.out; simp; omega
                      go_wp2_with (at_builtin; refine wpList_append_two rfl _ _ 31 rfl B 3 (.int .i64 0) 1 8 Try.underlying31 infoI rfl (by decide) v7 (n + k) (flatM (mI1 j) n ++ flatM (mI2 j) k) (by rfl) (HG.out.own.alloc _) ⟨wr.heap.size, 0, none⟩ 1 1 (mI2 j k) (by rfl) (by decide) (by rfl) (sl_new _ _ _ _) (one_mI2 j k) h63 hby hbs ?hiI)
                      intro v2 w5 ho2 hg2 hl2
                      have HG2 := Lib.hid (HG.out.next (by first | exact ho2 | (rw [List.append_assoc]; exact ho2)) hg2 (by simpa only [World.size_alloc, ne_eq] using hl2))
                      clear ho2 hg2 hl2
                      go_wp2
                      go_roundw
                      case rel => exact ⟨k + 1, _, rfl, by omega, by go_num, HG2.out⟩
                      case measure => simp [intOf]; omega
                    case neg =>
                      have t1 : decide ((k : Int) < 40) = false := by simp; omega
                      have HG40 := Lib.hid (show GoA B 3 1 (mI1 j) (mI2 j) w4 wr (a, n, c) 40 v7 by have h := HG.out; rw [show k = 40 by omega] at h; exact h)
                      clear HG
                      obtain ⟨g7, c7, cur7, hv7, -⟩ := owns_cases HG40.out.own (by omega)
                      subst hv7
                      have HOV := Lib.hid (show wr.ownsRow wb.heap.size 31 1 vL j us_ from HG40.out.only.owns HOU.out (fun b hb hb2 => by have h1 := (HOU.out.lt b hb).1; have h2 := HLJ.out b hb2; omega))
                      have h1c : ∀ u ∈ ([.slice (some ⟨g7, 0, none⟩) (n + 40) c7] : List Value), u.oneCell' = true := by intro u hu; rw [List.mem_singleton] at hu; subst hu; rfl
                      have h63 : j + 1 ≤ maxLen := by unfold maxLen; omega
                      have hby : (j + 1) * 24 ≤ 140737488355328 := by omega
                      have hbs : wb.heap.size ≤ (wr.alloc (.cells #[.slice (some ⟨g7, 0, none⟩) (n + 40) c7] 31)).heap.size := by have h1 := HG40.out.only.size; have h2 := HO.out.size; simp; omega
                      go_wp2_with (at_builtin; refine wpList_append_sl_at rfl _ _ 68 rfl wb.heap.size 31 (.slice none 0 0) 1 24 Try.underlying68 info68' rfl (by decide) vL j us_ (by rfl) (HOV.out.alloc _) (some ⟨wr.heap.size, 0, none⟩) 1 1 [.slice (some ⟨g7, 0, none⟩) (n + 40) c7] (by rfl) (fun h => by cases h) (by rfl) (sl_new _ _ _ _) h1c h63 hby hbs ?hoI)
                      intro v2 w5 ho2 hg2 hl2
                      have hal : Below wr.heap.size wr (wr.alloc (.cells #[.slice (some ⟨g7, 0, none⟩) (n + 40) c7] 31)) := (Below.refl _ _).alloc (Nat.le_refl _) _
                      have hvn : ∀ b, vL.ownBlock = some b → wb.heap.size ≤ b := fun b hb => (HOU.out.lt b hb).1
                      have HO5 := Lib.hid (show Only (ownS ms) wb w5 from (HO.out.trans (HG40.out.only.mono (fun b hb => HSJ.out b hb)) (fun b hb => .inl hb)).trans (T := fun b => vL.ownBlock = some b) ((Only.of_below hal).trans (Only.of_grown (S := fun b => vL.ownBlock = some b) hg2 (fun b hb => hb)) (fun b hb => .inl hb)) (fun b hb => .inr (hvn b hb)))
                      have hsl5 : ∀ {a' : Option Addr} {vs : List Value}, (∀ y, a' = some y → y.block < wb.heap.size) → Sl wr a' vs → Sl w5 a' vs := fun ha h => sl_grown (h.kept hal) hg2 (fun b off e e2 => by have h1 := ha _ e; have h2 := hvn b e2.symm; simp only at h1; omega)
                      have hbl : ∀ i' (h : i' < ms.length) y, ms[i'].1 = some y → (rV ms[i']).ownBlock = some y.block := fun i' h y e => by unfold rV; rw [e]; rfl
                      have HS5 := Lib.hid (show ∀ i' (h : i' < ms.length), Sl w5 ms[i'].1 (flatM (mI1 i') ms[i'].2.1) from fun i' h => by
                        refine hsl5 (fun y e => HTI.out _ ⟨_, List.getElem_mem h, hbl i' h y e⟩) ?_
                        by_cases e : i' = j
                        · rw [HEJ.out i' h e, e]; exact HG40.out.sl
                        · exact HG40.out.only.sl (HSLS.out i' h) (fun y ey _ hb => HAJ.out i' h e _ hb (hbl i' h y ey)))
                      have HW5 := Lib.hid (show ∀ i' (h : i' < ms.length), j + 1 ≤ i' → w5.ownsRow B 3 1 (rV ms[i']) ms[i'].2.1 (flatM (mI1 i') ms[i'].2.1) from fun i' h hi => by
                        have h1 := HG40.out.only.owns (HOW.out i' h (by omega)) (fun b hb hb2 => HAJ.out i' h (by omega) b hb2 hb)
                        exact (h1.alloc _).kept hg2 (by
                          cases hb : (rV ms[i']).ownBlock with
                          | none => exact .inl rfl
                          | some b =>
                            refine .inr (fun e => ?_)
                            have h2 := hvn b e.symm
                            have h3 := HTI.out b ⟨_, List.getElem_mem h, hb⟩
                            omega))
                      have HL5 := Lib.hid (show ∀ i' (h : i' < ms.length) u, (us_ ++ [Value.slice (some ⟨g7, 0, none⟩) (n + 40) c7])[i']? = some u → LongA B 3 1 (mI2 i') w5 ms[i'].2.1 40 u ∧ (u.ownBlock = (rV ms[i']).ownBlock ∨ ∃ b, u.ownBlock = some b ∧ wb.heap.size ≤ b) from fun i' h u hu => by
                        have hlong : ∀ {u : Value} {m : Nat}, LongA B 3 1 (mI2 i') wr m 40 u → LongA B 3 1 (mI2 i') w5 m 40 u := fun ⟨xs, h1, h2⟩ => ⟨xs, h1, (h2.alloc _).kept hg2 (owns_apart h2 HOV.out (by decide))⟩
                        have hul := HUL.out
                        by_cases e : i' < us_.length
                        · rw [List.getElem?_append_left e] at hu
                          obtain ⟨q1, q2⟩ := HLO.out i' h u hu
                          refine ⟨hlong (q1.only HG40.out.only (fun b hb hb2 => ?_)), q2⟩
                          rcases q2 with q2 | ⟨b3, q2, q3⟩
                          · rw [q2] at hb; exact HAJ.out i' h (by omega) b hb2 hb
                          · rw [q2] at hb; injection hb with hb; have := HLJ.out b hb2; omega
                        · have e2 : i' < (us_ ++ [Value.slice (some ⟨g7, 0, none⟩) (n + 40) c7]).length := (List.getElem?_eq_some_iff.1 hu).1
                          have e3 : i' = j := by simp at e2; omega
                          rw [List.getElem?_append_right (by omega), show i' - us_.length = 0 by omega] at hu
                          have e4 := Option.some.inj hu
                          subst e4
                          have e5 := HEJ.out i' h e3
                          rw [e5]
                          refine ⟨hlong ⟨_, flatM_len (mk := mI1 j) (fun q => rfl) _, by rw [e3]; exact HG40.out.own⟩, ?_⟩
                          rcases HG40.out.at' with q | ⟨b, q1, q2⟩
                          · exact .inl q
                          · exact .inr ⟨b, q1, by have := HO.out.size; omega⟩)
                      have HO2 := Lib.hid ho2
                      clear ho2 hg2 hl2 hal hvn hsl5 hbl
                      go_wp2
                      go_roundw
                      case rel => exact ⟨j + 1, _, _, rfl, by omega, by go_num, HO5.out, by have := HUL.out; simp; omega, HO2.out, HS5.out, HW5.out, HL5.out⟩
                      case measure => simp [intOf]; omega
                case neg =>
                  have t0 : decide ((j : Int) < (ms.length : Int)) = false := by simp; omega
                  obtain ⟨wc, hwc⟩ : ∃ W, W = w4 := ⟨_, rfl⟩
                  subst hwc
                  have HO5 := HO
                  have HVI := Lib.hid (show wc.ownsRow wb.heap.size 31 1 vL ms.length us_ by rw [show ms.length = j by omega]; exact HOU.out)
                  have HUI := Lib.hid (show us_.length = ms.length by have := HUL.out; omega)
                  have HMI := HSLS
                  have HLI := Lib.hid (fun i' (h : i' < ms.length) u hu => (HLO.out i' h u hu).1)
                  have HYI := Lib.hid (HKI.out wc HO5.out)
                  have HYG := Lib.hid (HO5.out.sl HYB.out (fun y hy _ => (HRA.out y hy).2))
                  have HVG := Lib.hid (HO5.out.owns HVB.out (fun b hb hb2 => by have h1 := (HVB.out.lt b hb).1; have h2 := HTI3.out b hb2; omega))
                  have HUG := HUB
                  have HMG := Lib.hid (show ∀ i' (h : i' < ls.length), Sl wc ls[i'].1 (flatM (mG1 i') ls[i'].2.1) from fun i' h => HO5.out.sl (HMB.out i' h) (fun y ey _ hb => HX.out _ ⟨_, List.getElem_mem h, by unfold rV; rw [ey]; rfl⟩ hb))
                  have HLG := Lib.hid (show ∀ i' (h : i' < ls.length) u, us[i']? = some u → LongA B 64 3 (mG2 i') wc ls[i'].2.1 40 u from fun i' h u hu => by
                    obtain ⟨q1, q2⟩ := HLB.out i' h u hu
                    refine q1.only HO5.out (fun b hb hb2 => ?_)
                    rcases q2 with q2 | ⟨b3, q2, q3⟩
                    · rw [q2] at hb; exact HX.out b ⟨_, List.getElem_mem h, hb⟩ hb2
                    · rw [q2] at hb; injection hb with hb; have := HTI3.out b hb2; omega)
                  have HFIN := Lib.hid (show Only (fun b => ownS ls b ∨ ownS ms b) w wc from ((((HO2.out.mono (fun b hb => .inl hb)).trans (HO3.out.mono (fun b hb => .inr hb)) (fun b hb => .inl hb)).trans (HO4.out.mono (fun b hb => .inl hb)) (fun b hb => .inl hb)).trans (HO5.out.mono (fun b hb => .inr hb)) (fun b hb => .inl hb)))
                  clear HO HOU HSLS HOW HLO HUL
                  go_wp2
                  -- the looking at G
                  go_loopw [17, 18, 19] (fun i x18 x19 wr => ∃ j : Nat, j ≤ ls.length ∧ i = .int .i64 j ∧ wc = wr) (fun i _ _ _ => ls.length - (intOf i).toNat)
                  case atStart => exact ⟨0, by omega, rfl, rfl⟩
                  case round =>
                    obtain ⟨j, hj, rfl, rfl⟩ := hrel
                    by_cases hlt : j < ls.length
                    case pos =>
                      have t0 : decide ((j : Int) < (ls.length : Int)) = true := by simp; omega
                      have i1 : (j : Int) < (ls.length : Int) := by omega
                      obtain ⟨cb, co, hce, z1⟩ := cont_at HYG.out j hlt
                      have HN := Lib.hid (HNG.out ls[j] (List.getElem_mem hlt))
                      have hlm : j < us.length := by have := HUG.out; omega
                      obtain ⟨gm, cm, curm, hvm, -⟩ := owns_cases HVG.out (by omega)
                      have hov := HVG.out
                      rw [hvm] at hov
                      have z2 : wc.cell? ⟨gm, j, none⟩ = some us[j] := owns_cell hov j (List.getElem?_eq_getElem hlm)
                      have HSJ := Lib.hid (HMG.out j hlt)
                      have HLJ := Lib.hid (HLG.out j hlt us[j] (List.getElem?_eq_getElem hlm))
                      generalize ls[j] = rj at z1 HN HSJ HLJ
                      generalize us[j] = u at z2 HLJ
                      obtain ⟨a, n, c⟩ := rj
                      have hn : n ≤ 5864062014500 := HN.out
                      simp only at z1
                      obtain ⟨gu, cu, hu, hcu⟩ := HLJ.out.cell (fun q => rfl) (by decide)
                      have hu : u = .slice (some ⟨gu, 0, none⟩) (n + 40) cu := hu
                      subst hu
                      have HCU := Lib.hid hcu
                      clear hcu hov hlm
                      subst hce hvm
                      go_wp2
                      go_loopw [19] (fun i wq => ∃ k : Nat, k ≤ n + 40 ∧ i = .int .i64 k ∧ wc = wq) (fun i _ => n + 40 - (intOf i).toNat)
                      case atStart => exact ⟨0, by omega, rfl, rfl⟩
                      case round =>
                        obtain ⟨k, hk, rfl, rfl⟩ := hrel
                        by_cases hlk : k < n
                        · have t1 : decide ((k : Int) < ((n : Int) + 40)) = true := by simp; omega
                          have t1' : decide ((k : Int) < ((n + 40 : Nat) : Int)) = true := by simp; omega
                          have t2 : decide ((k : Int) < (n : Int)) = true := by simp; omega
                          have t3 : decide ((k : Int) ≥ (n : Int)) = false := by simp; omega
                          have i2 : (k : Int) < (n : Int) := by omega
                          have i3 : ¬ (k : Int) ≥ (n : Int) := by omega
                          have wn : IntKind.i64.wrap ((n : Int) + 40) = (n : Int) + 40 := by rw [IntKind.wrap_i64]; omega
                          obtain ⟨g, off, hga, hx⟩ := sl_mark (sz := 3) HSJ.out (fun q => rfl) hlk (by decide)
                          have hga : a = some ⟨g, off, none⟩ := hga
                          subst hga
                          have x0 := hx 0 _ (by decide) rfl
                          have x1 := hx 1 _ (by decide) rfl
                          have x2 := hx 2 _ (by decide) rfl
                          try simp only [Nat.mul_one, Nat.add_zero, ← Nat.add_assoc] at x0
                          try simp only [Nat.mul_one, Nat.add_zero, ← Nat.add_assoc] at x1 x2
                          have f0 : (-(j : Int) != -(j : Int)) = false := by simp
                          have f1 : ((k : Int) != (k : Int)) = false := by simp
                          have f3 : (-(j : Int) == -(j : Int)) = true := by simp
                          have f4 : ((k : Int) == (k : Int)) = true := by simp
                          have w1 : IntKind.i64.wrap (-(j : Int)) = -(j : Int) := by rw [IntKind.wrap_i64]; omega
                          clear hx
                          go_wp2
                          go_roundw
                          case rel => exact ⟨k + 1, by omega, by go_num, by trivial⟩
                          case measure => simp [intOf]; omega
                        · by_cases hl4 : k < n + 40
                          · obtain ⟨q, rfl⟩ : ∃ q, k = n + q := ⟨k - n, by omega⟩
                            have hq : q < 40 := by omega
                            have t1 : decide (((n + q : Nat) : Int) < ((n : Int) + 40)) = true := by simp; omega
                            have t1' : decide (((n + q : Nat) : Int) < ((n + 40 : Nat) : Int)) = true := by simp; omega
                            have t2 : decide (((n + q : Nat) : Int) < (n : Int)) = false := by simp; omega
                            have t3 : decide (((n + q : Nat) : Int) ≥ (n : Int)) = true := by simp; omega
                            have i2 : ((n + q : Nat) : Int) < ((n + 40 : Nat) : Int) := by omega
                            have i3 : ((n + q : Nat) : Int) ≥ (n : Int) := by omega
                            have i4 : ¬ ((n + q : Nat) : Int) < (n : Int) := by omega
                            have wn : IntKind.i64.wrap ((n : Int) + 40) = (n : Int) + 40 := by rw [IntKind.wrap_i64]; omega
                            have hx := fun t v => HCU.out q t v hq
                            have x0 := hx 0 _ (by decide) rfl
                            have x1 := hx 1 _ (by decide) rfl
                            have x2 := hx 2 _ (by decide) rfl
                            try simp only [Nat.mul_one, Nat.add_zero, ← Nat.add_assoc] at x0
                            try simp only [Nat.mul_one, Nat.add_zero, ← Nat.add_assoc] at x1 x2
                            have f0 : ((1000 + (j : Int)) != (1000 + (j : Int))) = false := by simp
                            have f1 : ((q : Int) != (q : Int)) = false := by simp
                            have f3 : ((1000 + (j : Int)) == (1000 + (j : Int))) = true := by simp
                            have f4 : ((q : Int) == (q : Int)) = true := by simp
                            have w1 : IntKind.i64.wrap (1000 + (j : Int)) = 1000 + (j : Int) := by rw [IntKind.wrap_i64]; omega
                            have w2 : IntKind.i64.wrap (((n + q : Nat) : Int) - (n : Int)) = (q : Int) := by rw [IntKind.wrap_i64]; omega
                            have w3 : IntKind.i64.wrap ((n : Int) + (q : Int) - (n : Int)) = (q : Int) := by rw [IntKind.wrap_i64]; omega
                            clear hx
                            go_wp2
                            go_roundw
                            case rel => exact ⟨n + q + 1, by omega, by go_num, by trivial⟩
                            case measure => simp [intOf]; omega
                          · have t1 : decide ((k : Int) < ((n : Int) + 40)) = false := by simp; omega
                            have t1' : decide ((k : Int) < ((n + 40 : Nat) : Int)) = false := by simp; omega
                            have wn : IntKind.i64.wrap ((n : Int) + 40) = (n : Int) + 40 := by rw [IntKind.wrap_i64]; omega
                            go_wp2
                            go_roundw
                            case rel => exact ⟨j + 1, by omega, by go_num, by trivial⟩
                            case measure => simp [intOf]; omega
                    case neg =>
                      have t0 : decide ((j : Int) < (ls.length : Int)) = false := by simp; omega
                      go_wp2
                      -- the looking at I
                      go_loopw [20, 21, 22] (fun i x18 x19 wr => ∃ j : Nat, j ≤ ms.length ∧ i = .int .i64 j ∧ wc = wr) (fun i _ _ _ => ms.length - (intOf i).toNat)
                      case atStart => exact ⟨0, by omega, rfl, rfl⟩
                      case round =>
                        obtain ⟨j, hj, rfl, rfl⟩ := hrel
                        by_cases hlt : j < ms.length
                        case pos =>
                          have t0 : decide ((j : Int) < (ms.length : Int)) = true := by simp; omega
                          have i1 : (j : Int) < (ms.length : Int) := by omega
                          obtain ⟨cb, co, hce, z1⟩ := cont_at HYI.out j hlt
                          have HN := Lib.hid (HNI.out ms[j] (List.getElem_mem hlt))
                          have hlm : j < us_.length := by have := HUI.out; omega
                          obtain ⟨gm, cm, curm, hvm, -⟩ := owns_cases HVI.out (by omega)
                          have hov := HVI.out
                          rw [hvm] at hov
                          have z2 : wc.cell? ⟨gm, j, none⟩ = some us_[j] := owns_cell hov j (List.getElem?_eq_getElem hlm)
                          have HSJ := Lib.hid (HMI.out j hlt)
                          have HLJ := Lib.hid (HLI.out j hlt us_[j] (List.getElem?_eq_getElem hlm))
                          generalize ms[j] = rj at z1 HN HSJ HLJ
                          generalize us_[j] = u at z2 HLJ
                          obtain ⟨a, n, c⟩ := rj
                          have hn : n ≤ 17592186043904 := HN.out
                          simp only at z1
                          obtain ⟨gu, cu, hu, hcu⟩ := HLJ.out.cell (fun q => rfl) (by decide)
                          have hu : u = .slice (some ⟨gu, 0, none⟩) (n + 40) cu := hu
                          subst hu
                          have HCU := Lib.hid hcu
                          clear hcu hov hlm
                          subst hce hvm
                          go_wp2
                          go_loopw [22] (fun i wq => ∃ k : Nat, k ≤ n + 40 ∧ i = .int .i64 k ∧ wc = wq) (fun i _ => n + 40 - (intOf i).toNat)
                          case atStart => exact ⟨0, by omega, rfl, rfl⟩
                          case round =>
                            obtain ⟨k, hk, rfl, rfl⟩ := hrel
                            by_cases hlk : k < n
                            · have t1 : decide ((k : Int) < ((n : Int) + 40)) = true := by simp; omega
                              have t1' : decide ((k : Int) < ((n + 40 : Nat) : Int)) = true := by simp; omega
                              have t2 : decide ((k : Int) < (n : Int)) = true := by simp; omega
                              have t3 : decide ((k : Int) ≥ (n : Int)) = false := by simp; omega
                              have i2 : (k : Int) < (n : Int) := by omega
                              have i3 : ¬ (k : Int) ≥ (n : Int) := by omega
                              have wn : IntKind.i64.wrap ((n : Int) + 40) = (n : Int) + 40 := by rw [IntKind.wrap_i64]; omega
                              obtain ⟨g, off, hga, hx⟩ := sl_mark (sz := 1) HSJ.out (fun q => rfl) hlk (by decide)
                              have hga : a = some ⟨g, off, none⟩ := hga
                              subst hga
                              have x0 := hx 0 _ (by decide) rfl
                              try simp only [Nat.mul_one, Nat.add_zero, ← Nat.add_assoc] at x0
                              try simp only [Nat.mul_one, Nat.add_zero, ← Nat.add_assoc] at x1 x2
                              have f0 : ((-1000 * (j : Int) - (k : Int) - 1) != (-1000 * (j : Int) - (k : Int) - 1)) = false := by simp
                              have w2 : IntKind.i64.wrap (-1000 * (j : Int)) = -1000 * (j : Int) := by rw [IntKind.wrap_i64]; omega
                              have w3 : IntKind.i64.wrap (-1000 * (j : Int) - (k : Int)) = -1000 * (j : Int) - (k : Int) := by rw [IntKind.wrap_i64]; omega
                              have w4 : IntKind.i64.wrap (-1000 * (j : Int) - (k : Int) - 1) = -1000 * (j : Int) - (k : Int) - 1 := by rw [IntKind.wrap_i64]; omega
                              clear hx
                              go_wp2
                              go_roundw
                              case rel => exact ⟨k + 1, by omega, by go_num, by trivial⟩
                              case measure => simp [intOf]; omega
                            · by_cases hl4 : k < n + 40
                              · obtain ⟨q, rfl⟩ : ∃ q, k = n + q := ⟨k - n, by omega⟩
                                have hq : q < 40 := by omega
                                have t1 : decide (((n + q : Nat) : Int) < ((n : Int) + 40)) = true := by simp; omega
                                have t1' : decide (((n + q : Nat) : Int) < ((n + 40 : Nat) : Int)) = true := by simp; omega
                                have t2 : decide (((n + q : Nat) : Int) < (n : Int)) = false := by simp; omega
                                have t3 : decide (((n + q : Nat) : Int) ≥ (n : Int)) = true := by simp; omega
                                have i2 : ((n + q : Nat) : Int) < ((n + 40 : Nat) : Int) := by omega
                                have i3 : ((n + q : Nat) : Int) ≥ (n : Int) := by omega
                                have i4 : ¬ ((n + q : Nat) : Int) < (n : Int) := by omega
                                have wn : IntKind.i64.wrap ((n : Int) + 40) = (n : Int) + 40 := by rw [IntKind.wrap_i64]; omega
                                have hx := fun t v => HCU.out q t v hq
                                have x0 := hx 0 _ (by decide) rfl
                                try simp only [Nat.mul_one, Nat.add_zero, ← Nat.add_assoc] at x0
                                try simp only [Nat.mul_one, Nat.add_zero, ← Nat.add_assoc] at x1 x2
                                have f0 : ((1000 * (j : Int) + (q : Int)) != (1000 * (j : Int) + (q : Int))) = false := by simp
                                have w1 : IntKind.i64.wrap (1000 * (j : Int)) = 1000 * (j : Int) := by rw [IntKind.wrap_i64]; omega
                                have w2 : IntKind.i64.wrap (1000 * (j : Int) + ((n + q : Nat) : Int)) = 1000 * (j : Int) + ((n + q : Nat) : Int) := by rw [IntKind.wrap_i64]; omega
                                have w3 : IntKind.i64.wrap (1000 * (j : Int) + ((n + q : Nat) : Int) - (n : Int)) = 1000 * (j : Int) + (q : Int) := by rw [IntKind.wrap_i64]; omega
                                have w4 : IntKind.i64.wrap (1000 * (j : Int) + ((n : Int) + (q : Int))) = 1000 * (j : Int) + ((n : Int) + (q : Int)) := by rw [IntKind.wrap_i64]; omega
                                have w5 : IntKind.i64.wrap (1000 * (j : Int) + ((n : Int) + (q : Int)) - (n : Int)) = 1000 * (j : Int) + (q : Int) := by rw [IntKind.wrap_i64]; omega
                                clear hx
                                go_wp2
                                go_roundw
                                case rel => exact ⟨n + q + 1, by omega, by go_num, by trivial⟩
                                case measure => simp [intOf]; omega
                              · have t1 : decide ((k : Int) < ((n : Int) + 40)) = false := by simp; omega
                                have t1' : decide ((k : Int) < ((n + 40 : Nat) : Int)) = false := by simp; omega
                                have wn : IntKind.i64.wrap ((n : Int) + 40) = (n : Int) + 40 := by rw [IntKind.wrap_i64]; omega
                                go_wp2
                                go_roundw
                                case rel => exact ⟨j + 1, by omega, by go_num, by trivial⟩
                                case measure => simp [intOf]; omega
                        case neg =>
                          have t0 : decide ((j : Int) < (ms.length : Int)) = false := by simp; omega
                          go_wp2
                          go_ret
                          exact ⟨rfl, HFIN.out⟩
end Go.Proofs.Ytpejcndfplbikaa
