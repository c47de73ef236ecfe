/-
  Layer 3, the reference's whole numbers: trim, number, times.
-/
import Derived.Test.YtoaecmoihbifoaaBa
import Derived.Test.YtoaecmoihbifoaaNd
import Derived.Test.YtoaecmoihbifoaaGen
namespace Go.Proofs.Ytoaecmoihbifoaa
open Go.RowKit Go.K Go.R
set_option linter.unusedVariables false
set_option linter.unusedSimpArgs false

theorem infoI : (Try.prog.info? 3).map (fun i => (i.zero, i.size, i.bytes)) = some (some (.int .i64 0), 1, 8) := by kernel_rfl
theorem szI : (Try.prog.info? 3).map (·.size) = some 1 := by kernel_rfl
/-- Digits as they lie. -/
def iv (l : List Nat) : List Value := l.map fun (x : Nat) => Value.int .i64 (x : Int)
theorem iv_length (l : List Nat) : (iv l).length = l.length := List.length_map ..
theorem iv_append (l m : List Nat) : iv (l ++ m) = iv l ++ iv m := List.map_append ..
theorem oneCell_iv (l : List Nat) : ∀ u ∈ iv l, u.oneCell' = true := by
  intro u hu
  obtain ⟨c, _, rfl⟩ := List.mem_map.1 hu
  rfl
theorem iv_at {W : World} {a : Option Addr} {l : List Nat} (h : Sl W a (iv l)) (k : Nat) (hk : k < l.length) : ∃ b o, a = some ⟨b, o, none⟩ ∧ W.cell? ⟨b, o + k, none⟩ = some (.int .i64 (l[k] : Int)) := by
  obtain ⟨b, o, e, hc⟩ := h (by intro h0; have := iv_length l; rw [h0] at this; simp at this; omega)
  refine ⟨b, o, e, ?_⟩
  rw [hc k (by rw [iv_length]; exact hk)]
  unfold iv
  rw [List.getElem?_map, List.getElem?_eq_getElem hk]; rfl
theorem iv_take {W : World} {a : Option Addr} {l : List Nat} (h : Sl W a (iv l)) (n : Nat) : Sl W a (iv (l.take n)) := by
  intro hne
  obtain ⟨b, o, e, hc⟩ := h (by intro h0; apply hne; have := iv_length l; rw [h0] at this; have h1 : l = [] := List.eq_nil_of_length_eq_zero (by simpa using this.symm); rw [h1]; simp [iv])
  refine ⟨b, o, e, fun i hi => ?_⟩
  rw [iv_length, List.length_take] at hi
  rw [hc i (by rw [iv_length]; omega)]
  unfold iv
  rw [List.getElem?_map, List.getElem?_map, List.getElem?_take, if_pos (by omega)]
/-- A slice of such digits. -/
structure Ds (W : World) (ad : Option Addr) (cap : Nat) (l : List Nat) : Prop where
  sl : Sl W ad (iv l)
  le : l.length ≤ cap
  nil : ad = none → cap = 0
  at' : ∀ a, ad = some a → ∃ b o, a = ⟨b, o, none⟩
theorem Ds.kept {W W' : World} {ad : Option Addr} {cap : Nat} {l : List Nat} (h : Ds W ad cap l) (hb : Below W.heap.size W W') : Ds W' ad cap l := ⟨h.sl.kept hb, h.le, h.nil, h.at'⟩
theorem ds_of_owns {W : World} {B n : Nat} {v : Value} {l : List Nat} (h : W.ownsRow B 3 1 v n (iv l)) (hn : l.length = n) : ∃ ad cap, v = .slice ad l.length cap ∧ Ds W ad cap l := by
  rcases h.2 with ⟨rfl, h0⟩ | ⟨g, cap, cur, rfl, hb, hg, hle, hcm, hcs, htk⟩
  · refine ⟨none, 0, by rw [hn, h0], ?_, by omega, fun _ => rfl, fun a h => by cases h⟩
    have : l = [] := List.eq_nil_of_length_eq_zero (by omega)
    rw [this]; exact Sl.nil _ _
  · obtain ⟨ad, cap', e, _, hs, _⟩ := owns_slice h
    injection e with e1 e2 e3
    subst e1 e3
    exact ⟨_, cap, by rw [hn], hs, by omega, (fun h => by cases h), fun a h => by injection h with h; exact ⟨g, 0, h.symm⟩⟩
/-- A whole number as it lies. -/
def Bg (W : World) (v : Value) (n : Nat) : Prop := ∃ ad cap, v = .slice ad (digs n).length cap ∧ Ds W ad cap (digs n)
theorem Bg.kept {W W' : World} {v : Value} {n : Nat} (h : Bg W v n) (hb : Below W.heap.size W W') : Bg W' v n := by
  obtain ⟨ad, cap, e, h⟩ := h
  exact ⟨ad, cap, e, h.kept hb⟩
theorem Bg.nil (W : World) : Bg W (.slice none 0 0) 0 := ⟨none, 0, by rw [digs_zero]; rfl, by rw [digs_zero]; exact ⟨Sl.nil _ _, Nat.le_refl _, fun _ => rfl, fun a h => by cases h⟩⟩
/-- a[:n] of a slice, of nil too. -/
theorem run_slice_to {P : Program} {t e : TypeId} {size : Nat} (h : P.underlying t = some (.slice e)) (hz : (P.info? e).map (·.size) = some size) (a : Option Addr) (ha : ∀ x, a = some x → ∃ b o, x = ⟨b, o, none⟩) (len cap : Nat) (hn : a = none → cap = 0) (k : IntKind) (hi : Int) (n : Nat)
    (h1 : hi = n) (h2 : n ≤ cap) (w : World) :
    (Instr.slice t (.slice a len cap) none (some (.int k hi)) none).run P w = .ok (.slice a n cap) w := by
  cases a with
  | some x =>
    obtain ⟨b, o, rfl⟩ := ha x rfl
    exact run_slice_hi h hz _ ⟨b, o, rfl⟩ len cap k hi n h1 h2 w
  | none =>
    have hc := hn rfl
    subst hc
    have h3 : n = 0 := by omega
    subst h3 h1
    obtain ⟨i, hi', hs⟩ := Option.map_eq_some_iff.1 hz
    subst hs
    simp [Instr.slice, Instr.sliceBounds, Instr.sliceBound, asIntOf, run_underlying h, sizeOf, typeInfo, Sem.run_bind, Sem.run_pure, Result.andThen_ok, hi']
set_option maxRecDepth 100000 in
theorem trim_any (l : List Nat) (ad : Option Addr) (cap : Nat) (w : World) (hl : l.length ≤ 100000) (hd : ∀ x ∈ l, x < 65536) (h : Ds w ad cap l) :
    Calls Try.prog 77 #[.slice ad l.length cap] w fun r w' => ∃ v, r = .returned v ∧ Bg w v (val l) ∧ w = w' := by
  have HS := Lib.hid h
  have HD := Lib.hid hd
  clear h hd
  have HR := Lib.hid (fun (n : Nat) (h2 : n ≤ cap) => run_slice_to (P := Try.prog) Try.underlying68 szI ad HS.out.at' l.length cap HS.out.nil .i64 (n : Int) n rfl h2)
  go_enter Try.func77, Try.ntmps77
  go_wp2
  go_loopw [3] (fun i wr => ∃ n : Nat, n ≤ l.length ∧ i = .int .i64 n ∧ (∀ j (hj : j < l.length), n ≤ j → l[j] = 0) ∧ w = wr) (fun i _ => (intOf i).toNat)
  case atStart => exact ⟨l.length, Nat.le_refl _, rfl, fun j h1 h2 => absurd h1 (by omega), rfl⟩
  case round =>
    obtain ⟨n, hn, rfl, hz, hwr⟩ := hrel
    subst hwr
    have HZ := Lib.hid hz
    clear hz
    by_cases hp : 0 < n
    · have t0 : decide ((n : Int) > 0) = true := by simp; omega
      obtain ⟨b, o, he, z1⟩ := iv_at HS.out.sl (n - 1) (by omega)
      subst he
      have hw1 : IntKind.i64.wrap ((n : Int) - 1) = ((n - 1 : Nat) : Int) := by rw [IntKind.wrap_i64]; omega
      have i1 : ((n - 1 : Nat) : Int) < (l.length : Int) := by omega
      by_cases h0 : l[n - 1] = 0
      · have t1 : ((l[n - 1] : Int) == 0) = true := by rw [h0]; rfl
        have HZ2 := Lib.hid (show ∀ j (hj : j < l.length), n - 1 ≤ j → l[j] = 0 from fun j hj h2 => by
          by_cases e : j = n - 1
          · subst e; exact h0
          · exact HZ.out j hj (by omega))
        clear h0
        generalize l[n - 1] = x at z1 t1
        go_wp2
        go_roundw
        case rel => exact ⟨n - 1, by omega, by go_num, HZ2.out, by trivial⟩
        case measure => simp [intOf]; omega
      · have t1 : ((l[n - 1] : Int) == 0) = false := by rw [beq_eq_false_iff_ne]; omega
        have HC := Lib.hid (show Canon (l.take n) by
          refine ⟨fun x hx => HD.out x (List.mem_of_mem_take hx), fun h => ?_⟩
          simp only [List.length_take] at h ⊢
          rw [List.getElem_take]
          have e : min n l.length - 1 = n - 1 := by omega
          simp only [e]
          exact h0)
        have hle : n ≤ cap := by have := HS.out.le; omega
        have hrs := HR.out n hle
        have HBG := Lib.hid (show Bg w (.slice (some ⟨b, o, none⟩) n cap) (val l) by
          refine ⟨some ⟨b, o, none⟩, cap, ?_, ?_⟩
          · rw [← val_take l n HZ.out, canon_digs HC.out]
            have : (l.take n).length = n := by simp; omega
            rw [this]
          · rw [← val_take l n HZ.out, canon_digs HC.out]
            exact ⟨iv_take HS.out.sl n, by simp; omega, HS.out.nil, HS.out.at'⟩)
        clear h0
        generalize l[n - 1] = x at z1 t1
        go_wp2_with ((with_reducible refine at_slice_op ?_); refine wpList_slice_hi Try.underlying68 _ _ _ rfl rfl hrs ?_)
        go_ret
        exact ⟨_, rfl, HBG.out, rfl⟩
    · have t0 : decide ((n : Int) > 0) = false := by simp; omega
      have hn0 : n = 0 := by omega
      subst hn0
      have hrs := HR.out 0 (Nat.zero_le _)
      have hv : val l = 0 := val_zero_all (fun j hj => HZ.out j hj (Nat.zero_le _))
      have HBG := Lib.hid (show Bg w (.slice ad 0 cap) (val l) by
        refine ⟨ad, cap, ?_, ?_⟩
        · rw [hv, digs_zero]; rfl
        · rw [hv, digs_zero]; exact ⟨Sl.nil _ _, Nat.zero_le _, HS.out.nil, HS.out.at'⟩)
      clear hv
      go_wp2_with ((with_reducible refine at_slice_op ?_); refine wpList_slice_hi Try.underlying68 _ _ _ rfl rfl hrs ?_)
      go_ret
      exact ⟨_, rfl, HBG.out, rfl⟩
theorem tquo_nat (a b : Nat) : Int.tdiv (a : Int) (b : Int) = ((a / b : Nat) : Int) := (Int.ofNat_tdiv a b).symm
theorem trem_nat (a b : Nat) : Int.tmod (a : Int) (b : Int) = ((a % b : Nat) : Int) := (Int.ofNat_tmod a b).symm
end Go.Proofs.Ytoaecmoihbifoaa
