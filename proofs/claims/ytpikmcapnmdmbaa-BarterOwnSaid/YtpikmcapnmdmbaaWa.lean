/-
  Layer 22: lists of numbers, lists of lists; the map from an item to its place.
-/
import Derived.Test.YtpikmcapnmdmbaaRows
import Derived.Test.YtpikmcapnmdmbaaGen
import Derived.BigQuiet
import Derived.Deep.QuietTactic
import Derived.Maps.OwnSet
namespace Go.Proofs.Ytpikmcapnmdmbaa
open Go.RowKit Go.K Go.Maps
set_option linter.unusedVariables false
set_option linter.unusedSimpArgs false

def vI (l : List Int) : List Value := l.map fun c => .int .i64 c
theorem vI_length (l : List Int) : (vI l).length = l.length := by simp [vI]
theorem vI_get (l : List Int) (i : Nat) (h : i < l.length) : (vI l)[i]? = some (.int .i64 l[i]) := by
  simp [vI, List.getElem?_eq_getElem h]
theorem vI_append (l m : List Int) : vI (l ++ m) = vI l ++ vI m := by simp [vI]
theorem vI_ne {l : List Int} {k : Nat} (h : k < l.length) : vI l ≠ [] := fun e => by
  have := vI_length l
  rw [e] at this
  simp at this
  omega
theorem oneCell_vI (l : List Int) : ∀ u ∈ vI l, u.oneCell' = true := by
  intro u hu
  obtain ⟨c, _, rfl⟩ := List.mem_map.1 hu
  rfl
/-- The cell of number i. -/
theorem int_at {W : World} {a : Option Addr} {l : List Int} (h : Sl W a (vI l)) (i : Nat) (hi : i < l.length) : ∃ b off, a = some ⟨b, off, none⟩ ∧ W.cell? ⟨b, off + i, none⟩ = some (.int .i64 l[i]) := by
  obtain ⟨b, off, he, hc⟩ := h (vI_ne hi)
  exact ⟨b, off, he, by rw [hc i (by rw [vI_length]; exact hi), vI_get l i hi]⟩
/-- Numbers of 64 bits. -/
def Wf (l : List Int) : Prop := ∀ x ∈ l, (Lit.int .i64 x).wf = true
/-- A list within a list of lists: where it lies. -/
structure Wl where
  a : Option Addr
  c : Nat
  l : List Int
def Wl.v (x : Wl) : Value := .slice x.a x.l.length x.c
def wV (ws : List Wl) : List Value := ws.map Wl.v
theorem wV_length (l : List Wl) : (wV l).length = l.length := by simp [wV]
theorem wV_get (l : List Wl) (i : Nat) (h : i < l.length) : (wV l)[i]? = some l[i].v := by simp [wV, List.getElem?_eq_getElem h]
structure WlOk (W : World) (x : Wl) : Prop where
  sl : Sl W x.a (vI x.l)
  le : x.l.length ≤ x.c
  mx : x.l.length ≤ 17592186043904
  nil : x.a = none → x.l.length = 0 ∧ x.c = 0
  wf : Wf x.l
theorem WlOk.kept {W W' : World} {x : Wl} (h : WlOk W x) (hb : Below W.heap.size W W') : WlOk W' x := ⟨h.sl.kept hb, h.le, h.mx, h.nil, h.wf⟩
structure WsOk (W : World) (a : Option Addr) (ws : List Wl) : Prop where
  sl : Sl W a (wV ws)
  each : ∀ x ∈ ws, WlOk W x
theorem WsOk.kept {W W' : World} {a : Option Addr} {ws : List Wl} (h : WsOk W a ws) (hb : Below W.heap.size W W') : WsOk W' a ws := ⟨h.sl.kept hb, fun x hx => (h.each x hx).kept hb⟩
theorem WsOk.at' {W : World} {a : Option Addr} {ws : List Wl} (h : WsOk W a ws) (i : Nat) (hi : i < ws.length) : ∃ b off, a = some ⟨b, off, none⟩ ∧ W.cell? ⟨b, off + i, none⟩ = some (.slice ws[i].a ws[i].l.length ws[i].c) := by
  obtain ⟨b, off, he, hc⟩ := h.sl (fun e => by have := wV_length ws; rw [e] at this; simp at this; omega)
  exact ⟨b, off, he, by rw [hc i (by rw [wV_length]; exact hi), wV_get ws i hi]; rfl⟩
/-- What is asked of a meet. -/
def MeetP (is : List Int) (m : Nat) : Prop := is.length = m ∧ is.Nodup ∧ ∀ x ∈ is, 1 ≤ x
theorem law3 : Keyed Try.prog 3 := int_keyed Try.underlying3
theorem zero3 (w : World) : (zeroValue 3).run Try.prog w = .ok (.int .i64 0) w := by kernel_rfl
theorem infoI : (Try.prog.info? 3).map (fun i => (i.zero, i.size, i.bytes)) = some (some (.int .i64 0), 1, 8) := by kernel_rfl
theorem infoS : (Try.prog.info? 22).map (fun i => (i.zero, i.size, i.bytes)) = some (some (.slice none 0 0), 1, 24) := by kernel_rfl
theorem sz3 : (Try.prog.info? 3).map (·.size) = some 1 := by kernel_rfl
theorem sz4 : (Try.prog.info? 4).map (·.size) = some 1 := by kernel_rfl
theorem sz22 : (Try.prog.info? 22).map (·.size) = some 1 := by kernel_rfl
/-- Block b is a map from the first k items to their places. -/
structure MapD (is : List Int) (k : Nat) (D : DataW Unit) : Prop where
  has : ∀ x : Int, Maps.has D (.int .i64 x) = decide (x ∈ is.take k)
  at' : ∀ j (h : j < is.length), j < k → D.atKey (.int .i64 is[j]) (.lit (.int .i64 0)) = .lit (.int .i64 (j : Int))
theorem mapD_start (is : List Int) : MapD is 0 (.map []) := ⟨fun x => by simp [Maps.has], fun j h hk => by omega⟩
theorem mapD_step {is : List Int} {k : Nat} {D : DataW Unit} (h : MapD is k D) (hk : k < is.length) (hm : IsMap D) (hn : is[k] ∉ is.take k) : MapD is (k + 1) (D.put (.int .i64 is[k]) (.lit (.int .i64 (k : Int)))) := by
  constructor
  · intro x
    by_cases e : x = is[k]
    · subst e
      rw [has_put_same hm (by trivial)]
      symm
      have e2 := List.take_succ_eq_append_getElem hk
      rw [decide_eq_true_eq, e2]
      exact List.mem_append_right _ (List.mem_singleton.2 rfl)
    · rw [has_put_other (by intro e'; injection e' with _ e'; exact e e'), h.has]
      have e2 := List.take_succ_eq_append_getElem hk
      rw [decide_eq_decide, e2, List.mem_append, List.mem_singleton]
      exact ⟨.inl, fun h => h.elim id (fun h => absurd h e)⟩
  · intro j hj hjk
    by_cases e : j = k
    · subst e
      exact atKey_put_same hm (by trivial) _ _
    · have : j < k := by omega
      have hne : is[j] ≠ is[k] := fun e2 => hn (by rw [← e2]; exact List.mem_take_iff_getElem.2 ⟨j, by omega, rfl⟩)
      rw [atKey_put_other (by intro e'; injection e' with _ e'; exact hne e'), h.at' j hj this]
def MapR (W : World) (b k : Nat) (is : List Int) : Prop := ∃ D : DataW Unit, W.ownsMap Try.prog 3 (plainElem Try.prog 3) b k D ∧ MapD is k D
theorem make66 (n : Int) (w : World) : (Instr.makeMap 66 (some (.int .i64 n))).run Try.prog w = .ok (.map (some w.heap.size)) (w.alloc (.map #[] 0)) := by
  simp [Instr.makeMap, run_underlying Try.underlying66, asInt, asIntOf, Result.andThen]
set_option maxRecDepth 100000 in
set_option maxHeartbeats 2000000 in
theorem brought_any (ia : Option Addr) (ic : Nat) (is : List Int) (wa : Option Addr) (wc m : Nat) (w : World) (hl : is.length ≤ 17592186043904) (hs : Sl w ia (vI is)) (hw : Wf is) :
    Calls Try.prog 45 #[.slice ia is.length ic, .slice wa m wc] w fun r w' => ((r = .returned (.map none) ∧ ¬ MeetP is m) ∨ (∃ b, r = .returned (.map (some b)) ∧ MeetP is m ∧ MapR w' b is.length is ∧ w.heap.size ≤ b)) ∧ Below w.heap.size w w' := by
  have HS := Lib.hid hs
  have HW := Lib.hid hw
  clear hs hw
  have hmm := make66
  go_enter Try.func45, Try.ntmps45
  by_cases hm : is.length = m
  · have t0 : ((is.length : Int) != (m : Int)) = false := by simp; omega
    have HM := Lib.hid hm
    clear hm
    go_wp2
    go_loopw [6, 7, 8, 9, 20] (fun x6 x7 x8 x9 i wr => ∃ k : Nat, k ≤ is.length ∧ i = .int .i64 k ∧ (∃ D : DataW Unit, wr.ownsMap Try.prog 3 (plainElem Try.prog 3) w.heap.size k D ∧ MapD is k D) ∧ (is.take k).Nodup ∧ (∀ x ∈ is.take k, 1 ≤ x) ∧ Below w.heap.size w wr)
      (fun _ _ _ _ i _ => is.length - (intOf i).toNat)
    case atStart => exact ⟨0, by omega, rfl, ⟨_, World.ownsMap_made _ _ _ _, mapD_start is⟩, by simp, by simp, (Below.refl _ _).alloc (Nat.le_refl _) _⟩
    case round =>
      obtain ⟨k, hk, rfl, ⟨D, ho, hD⟩, hnd, hpos, hb⟩ := hrel
      have HO := Lib.hid ho
      have HD := Lib.hid hD
      have HND := Lib.hid hnd
      have HP := Lib.hid hpos
      have HB := Lib.hid hb
      clear ho hD hnd hpos hb
      by_cases hlt : k < is.length
      · have t1 : decide ((k : Int) < (is.length : Int)) = true := by simp; omega
        have i1 : (k : Int) < (is.length : Int) := by omega
        obtain ⟨ib, io, rfl, z1⟩ := int_at (HS.out.below HB.out HS.out.lt) k hlt
        have HWX := Lib.hid (HW.out is[k] (List.getElem_mem hlt))
        have HH := Lib.hid (HD.out.has is[k])
        have HST := Lib.hid (fun hn => mapD_step HD.out hlt HO.out.isMap hn)
        have HTK := Lib.hid (List.take_succ_eq_append_getElem hlt)
        generalize is[k] = x at z1 HWX HH HST HTK
        have hkey := keyOf_int_mk Try.underlying3 HWX.out
        by_cases hin : x ∈ is.take k
        · have h1 : Maps.has D (.int .i64 x) = true := by rw [HH.out]; simpa using hin
          go_wp2_with (first
            | (at_lookup; refine wpList_lookup_own_ok_int _ rfl _ _ 66 rfl 3 3 .i64 law3 Try.underlying66 Try.underlying3 (zero3 _) w.heap.size k _ rfl HO.out _ _ rfl hkey ?_; intro c hat hwc)
            | fail)
          go_ret
          refine ⟨.inl ⟨rfl, fun h => ?_⟩, HB.out⟩
          have hnd := h.2.1
          have : (is.take k ++ [x]).Nodup := by rw [← HTK.out]; exact hnd.sublist (List.take_sublist _ _)
          rw [List.nodup_append] at this
          exact this.2.2 x hin x (by simp) rfl
        · have h1 : Maps.has D (.int .i64 x) = false := by rw [HH.out]; simpa using hin
          by_cases hx : x < 1
          · have h2 : decide (x < 1) = true := by simpa using hx
            go_wp2_with (first
              | (at_lookup; refine wpList_lookup_own_ok_int _ rfl _ _ 66 rfl 3 3 .i64 law3 Try.underlying66 Try.underlying3 (zero3 _) w.heap.size k _ rfl HO.out _ _ rfl hkey ?_; intro c hat hwc)
              | fail)
            go_ret
            refine ⟨.inl ⟨rfl, fun h => ?_⟩, HB.out⟩
            have : x ∈ is.take (k + 1) := by rw [HTK.out]; simp
            have := h.2.2 x (List.mem_of_mem_take this)
            omega
          · have h2 : decide (x < 1) = false := by simpa using hx
            go_wp2_with (first
              | (at_lookup; refine wpList_lookup_own_ok_int _ rfl _ _ 66 rfl 3 3 .i64 law3 Try.underlying66 Try.underlying3 (zero3 _) w.heap.size k _ rfl HO.out _ _ rfl hkey ?_; intro c hat hwc)
              | (at_mapUpdate; refine wpList_mapUpdate_own _ rfl _ _ _ 66 rfl 3 3 law3 Try.underlying66 _ w.heap.size k _ rfl HO.out (by unfold maxLen; omega) _ _ _ rfl rfl hkey _ [] (plainElem_int Try.underlying3 (WalkArith.wf_i64 (by omega))) ?_; intro w1 hown1 hgrow1)
              | fail)
            go_roundw
            case rel =>
              refine ⟨k + 1, by omega, by go_num, ⟨_, hown1, HST.out hin⟩, ?_, ?_, HB.out.grown hgrow1 HB.out.size (fun j hj => by cases hj; exact Nat.le_refl _)⟩
              · rw [HTK.out, List.nodup_append]
                exact ⟨HND.out, by simp, fun a ha b hb e => by simp at hb; subst hb; subst e; exact hin ha⟩
              · intro y hy
                rw [HTK.out] at hy
                rcases List.mem_append.1 hy with h | h
                · exact HP.out y h
                · simp at h; omega
            case measure => simp [intOf]; omega
      · have t1 : decide ((k : Int) < (is.length : Int)) = false := by simp; omega
        have hke : k = is.length := by omega
        go_wp2
        go_ret
        refine ⟨.inr ⟨_, rfl, ⟨HM.out, ?_, ?_⟩, ⟨D, ?_, ?_⟩, Nat.le_refl _⟩, HB.out⟩
        · have := HND.out; rwa [hke, List.take_length] at this
        · have := HP.out; rwa [hke, List.take_length] at this
        · rw [← hke]; exact HO.out
        · rw [← hke]; exact HD.out
  · have t0 : ((is.length : Int) != (m : Int)) = true := by simp; omega
    go_wp2
    go_ret
    exact ⟨.inl ⟨rfl, fun h => hm h.1⟩, Below.refl _ _⟩
end Go.Proofs.Ytpikmcapnmdmbaa
