/-
  Layer 22: the lists that are lent: in memory of their own, marks behind them.
-/
import Derived.Test.YtpikmcapnmdmbaaWg
namespace Go.Proofs.Ytpikmcapnmdmbaa
open Go.RowKit Go.K Go.Maps
set_option linter.unusedVariables false
set_option linter.unusedSimpArgs false
def mks (k : Nat) : List Int := (List.range k).map fun (i : Nat) => -771 - (i : Int)
theorem mks_length (k : Nat) : (mks k).length = k := by simp [mks]
theorem mks_succ (k : Nat) : mks (k + 1) = mks k ++ [-771 - (k : Int)] := by simp [mks, List.range_succ]
/-- A list in memory of its own, with marks behind it. -/
structure LentL (B : Nat) (W : World) (x : Wl) : Prop where
  row : W.ownsRow B 3 1 (.slice x.a (x.l.length + 40) x.c) (x.l.length + 40) (vI (x.l ++ mks 40))
  mx : x.l.length ≤ 1000000
  wf : Wf x.l
theorem LentL.at' {B : Nat} {W : World} {x : Wl} (h : LentL B W x) : ∃ g, x.a = some ⟨g, 0, none⟩ ∧ B ≤ g ∧ g < W.heap.size ∧ x.l.length + 40 ≤ x.c := by
  obtain ⟨ad, cap, hv, hle, _, hs, _⟩ := owns_len h.row
  injection hv with h1 h2 h3
  obtain ⟨g, hg⟩ := hs (by omega)
  rw [h1, hg]
  have := h.row.lt g (by rw [h1, hg]; rfl)
  exact ⟨g, rfl, this.1, this.2, by omega⟩
theorem sl_prefix {W : World} {a : Option Addr} {xs ys : List Value} (h : Sl W a (xs ++ ys)) : Sl W a xs := by
  intro hne
  obtain ⟨b, off, he, hc⟩ := h (fun e => hne (List.append_eq_nil_iff.1 e).1)
  exact ⟨b, off, he, fun i hi => by rw [hc i (by simp; omega), List.getElem?_append_left hi]⟩
theorem LentL.ok {B : Nat} {W : World} {x : Wl} (h : LentL B W x) : WlOk W x := by
  obtain ⟨g, hg, _, _, hle⟩ := h.at'
  have hr := h.row
  rw [hg] at hr
  refine ⟨?_, by omega, by have := h.mx; omega, (fun e => by rw [hg] at e; cases e), h.wf⟩
  rw [hg]
  have hs := sl_of_owns hr
  rw [vI_append] at hs
  exact sl_prefix hs
theorem LentL.below {B : Nat} {W W' : World} {x : Wl} (h : LentL B W x) (hb : Below W.heap.size W W') : LentL B W' x := ⟨owns_below (B := 0) h.row hb, h.mx, h.wf⟩
theorem LentL.base {B B' : Nat} {W : World} {x : Wl} (h : LentL B W x) (hb : B' ≤ B) : LentL B' W x := ⟨owns_base h.row hb, h.mx, h.wf⟩
theorem LentL.only {B : Nat} {S : Nat → Prop} {W W' : World} {x : Wl} (h : LentL B W x) (ho : Only S W W') (hS : ∀ k, (Value.slice x.a (x.l.length + 40) x.c).ownBlock = some k → ¬ S k) : LentL B W' x := ⟨ho.owns h.row hS, h.mx, h.wf⟩
theorem LentL.grown {B B' : Nat} {W W' : World} {x : Wl} {v : Value} {n s : Nat} {t : TypeId} {xs : List Value} (h : LentL B W x) (ho : W.ownsRow B' t s v n xs) (hg : W.grownBy W' v.ownBlock) (hne : 3 ≠ t) : LentL B W' x :=
  ⟨h.row.kept hg (by
    obtain ⟨g, hg', _⟩ := h.at'
    have hr := h.row
    rw [hg'] at hr ⊢
    refine .inr (fun e => ?_)
    obtain ⟨g1, cap, cur, hv, _, hr1, _⟩ := owns_cases hr (by omega)
    injection hv with e1
    injection e1 with e1
    injection e1 with e1
    rcases ho.2 with ⟨rfl, _⟩ | ⟨g2, cap2, cur2, rfl, _, hr2, _⟩
    · cases e
    · injection e with e2
      have e5 : g = g1 := e1
      have e6 : g = g2 := e2
      subst e5
      subst e6
      rw [hr1] at hr2
      injection hr2 with e3
      injection e3 with _ e4
      exact hne e4), h.mx, h.wf⟩
set_option maxRecDepth 100000 in
set_option maxHeartbeats 2000000 in
theorem lent_any (a : Option Addr) (c : Nat) (l : List Int) (w : World) (hl : l.length ≤ 1000000) (hs : Sl w a (vI l)) (hn : a = none → l.length = 0 ∧ c = 0) (hw : Wf l) :
    Calls Try.prog 13 #[.slice a l.length c] w fun r w' => ∃ x : Wl, r = .returned x.v ∧ x.l = l ∧ LentL w.heap.size w' x ∧ Below w.heap.size w w' := by
  have HS := Lib.hid hs
  have HN := Lib.hid hn
  clear hs hn
  have h63 : 0 + l.length ≤ maxLen := by unfold maxLen; omega
  have hby : (0 + l.length) * 8 ≤ 140737488355328 := by omega
  go_enter Try.func13, Try.ntmps13
  go_wp2_with (at_builtin; refine wpList_append_sl rfl _ _ 22 rfl w.heap.size 3 (.int .i64 0) 1 8 Try.underlying22 infoI (by rfl) (by decide) (.slice none 0 0) 0 [] (by rfl) (World.ownsRow_nil _ _ _ _) a l.length c (vI l) (by rfl) HN.out (by rw [vI_length]; omega) HS.out (oneCell_vI _) h63 hby (Nat.le_refl _) ?a9)
  intro v1 w1 ho hg
  have HO := Lib.hid (show w1.ownsRow w.heap.size 3 1 v1 (l.length + 0) (vI (l ++ mks 0)) by simpa [mks] using ho)
  have HB := Lib.hid ((Below.refl w.heap.size w).grown hg (Nat.le_refl _) (fun k hk => by cases hk))
  clear ho hg
  go_wp2
  go_loopw [3, 4] (fun v i wr => ∃ (k : Nat) (v' : Value), v' = v ∧ k ≤ 40 ∧ i = .int .i64 k ∧ wr.ownsRow w.heap.size 3 1 v' (l.length + k) (vI (l ++ mks k)) ∧ Below w.heap.size w wr) (fun _ i _ => 40 - (intOf i).toNat)
  case atStart => exact ⟨0, _, rfl, by omega, rfl, HO.out, HB.out⟩
  case round =>
    clear HO HB
    obtain ⟨k, v, hv, hk, rfl, ho, hb⟩ := hrel
    subst hv
    have HO := Lib.hid ho
    have HB := Lib.hid hb
    clear ho hb
    by_cases hlt : k < 40
    · have t0 : decide ((k : Int) < 40) = true := by simp; omega
      have h64 : l.length + k + 1 ≤ maxLen := by unfold maxLen; omega
      have hbz : (l.length + k + 1) * 8 ≤ 140737488355328 := by omega
      have hbs : w.heap.size ≤ (wr.alloc (.cells #[.int .i64 (-771 - (k : Int))] 3)).heap.size := (HB.out.alloc HB.out.size _).size
      go_wp2_with (at_builtin; refine wpList_append_sl rfl _ _ 22 rfl w.heap.size 3 (.int .i64 0) 1 8 Try.underlying22 infoI (by rfl) (by decide) v (l.length + k) (vI (l ++ mks k)) (by rfl) (HO.out.alloc _) (some ⟨wr.heap.size, 0, none⟩) 1 1 (vI [-771 - (k : Int)]) (by rfl) (fun h => by cases h) (by rfl) (sl_new _ _ _ _) (oneCell_vI _) h64 hbz hbs ?a8)
      intro v2 w2 ho2 hg2
      have HO2 := Lib.hid ho2
      have HB2 := Lib.hid ((HB.out.alloc HB.out.size (.cells #[.int .i64 (-771 - (k : Int))] 3)).grown hg2 hbs (fun q hq => (HO.out.lt q hq).1))
      clear ho2 hg2
      go_wp2
      go_roundw
      case rel => exact ⟨k + 1, _, rfl, by omega, by go_num, by rw [mks_succ, ← List.append_assoc, vI_append (l ++ mks k)]; exact HO2.out, HB2.out⟩
      case measure => simp [intOf]; omega
    · have t0 : decide ((k : Int) < 40) = false := by simp; omega
      have hk40 : k = 40 := by omega
      have HF := Lib.hid (show wr.ownsRow w.heap.size 3 1 v (l.length + 40) (vI (l ++ mks 40)) by rw [← hk40]; exact HO.out)
      obtain ⟨ad, cap, hv, hle, hcm, hsome, _⟩ := owns_len HO.out
      rw [hk40] at hv hle hsome
      obtain ⟨g, rfl⟩ := hsome (by omega)
      have HKK := Lib.hid hk40
      clear HO hk40
      subst hv
      have hr := fun W => run_slice_hi (P := Try.prog) Try.underlying22 sz3 (some ⟨g, 0, none⟩) ⟨g, 0, rfl⟩ (l.length + 40) cap .i64 (l.length : Int) l.length rfl (by omega) W
      go_wp2_with ((with_reducible refine at_slice_op ?_); refine wpList_slice_hi Try.underlying22 (.slice (some ⟨g, 0, none⟩) (l.length + 40) cap) (.int .i64 (l.length : Int)) _ ?_ ?_ hr ?_; exact rfl; exact rfl)
      go_ret
      exact ⟨⟨some ⟨g, 0, none⟩, cap, l⟩, rfl, rfl, ⟨HF.out, hl, hw⟩, HB.out⟩
end Go.Proofs.Ytpikmcapnmdmbaa
