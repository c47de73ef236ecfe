/-
  Layer 22: handed: whose item each of a group gets.
-/
import Derived.Test.YtpikmcapnmdmbaaWl
import Derived.Test.YtpikmcapnmdmbaaWh
import Derived.Deep.DeepCutAuto
import Derived.Deep.CutBlock
namespace Go.Proofs.Ytpikmcapnmdmbaa
open Go.RowKit Go.K Go.Maps
set_option linter.unusedVariables false
set_option linter.unusedSimpArgs false
theorem perm_pick {out Lf L : List Nat} (h : (out ++ Lf).Perm L) {k : Nat} (hk : k < Lf.length) : ((out ++ [Lf.getD k 0]) ++ (Lf.take k ++ Lf.drop (k + 1))).Perm L := by
  refine List.Perm.trans ?_ h
  rw [List.append_assoc]
  refine List.Perm.append_left _ ?_
  have e : Lf = Lf.take k ++ Lf.getD k 0 :: Lf.drop (k + 1) := by
    rw [List.getD_eq_getElem?_getD, List.getElem?_eq_getElem hk]
    simp
  have h1 : (Lf.getD k 0 :: (Lf.take k ++ Lf.drop (k + 1))).Perm (Lf.take k ++ Lf.getD k 0 :: Lf.drop (k + 1)) := List.perm_middle.symm
  rw [← e] at h1
  exact h1
theorem sl_take {w : World} {a : Option Addr} {l : List Nat} (h : Sl w a (vN l)) (k : Nat) : Sl w a (vN (l.take k)) := by
  have e : vN l = vN (l.take k) ++ vN (l.drop k) := by rw [← vN_append, List.take_append_drop]
  rw [e] at h
  exact sl_prefix h
theorem sl_drop {w : World} {a : Option Addr} {l : List Nat} (h : Sl w a (vN l)) (k cap : Nat) (hc : l.length ≤ cap) : Sl w (piece a k cap 1) (vN (l.drop k)) := by
  have := sl_piece h k cap 1 (by rw [vN_length]; omega)
  rw [Nat.mul_one] at this
  have e : (vN l).drop k = vN (l.drop k) := by simp [vN, List.map_drop]
  rwa [e] at this
/-- Two rows lie apart. -/
def Apart (v v' : Value) : Prop := ∀ k, v.ownBlock = some k → v'.ownBlock ≠ some k
theorem Apart.kept {w w' : World} {B n : Nat} {t : TypeId} {s : Nat} {v v' : Value} {xs : List Value} (h : Apart v v') (ho : w.ownsRow B t s v n xs) (hg : w.grownBy w' v'.ownBlock) : w'.ownsRow B t s v n xs :=
  ho.kept hg (by
    cases hv : v.ownBlock with
    | none => exact .inl rfl
    | some k => exact .inr (fun e => h k hv e.symm))
theorem none_or (o : Option Nat) : o = Option.none ∨ o ≠ (Value.slice Option.none 0 0).ownBlock := by cases o with
  | none => exact .inl rfl
  | some k => exact .inr (fun e => by cases e)
theorem at_lo_op {P : Program} {ops : Array Oper} {Q : Exit → Act → World → Prop} {rest : List Oper} {a : Act} {w : World} {d : Option Tmp} {ty : TypeId} {x l : Operand} {tt : TypeId} {pos : String} {af : Array Edge} {gd : Option (Nat × Bool)}
    (k : wpList P ops Q ({ dst := d, op := .slice ty x (some l) none none, type := tt, pos := pos, after := af, guard := gd } :: rest) a w) : wpList P ops Q ({ dst := d, op := .slice ty x (some l) none none, type := tt, pos := pos, after := af, guard := gd } :: rest) a w := k
theorem at_hi_op {P : Program} {ops : Array Oper} {Q : Exit → Act → World → Prop} {rest : List Oper} {a : Act} {w : World} {d : Option Tmp} {ty : TypeId} {x l : Operand} {tt : TypeId} {pos : String} {af : Array Edge} {gd : Option (Nat × Bool)}
    (k : wpList P ops Q ({ dst := d, op := .slice ty x none (some l) none, type := tt, pos := pos, after := af, guard := gd } :: rest) a w) : wpList P ops Q ({ dst := d, op := .slice ty x none (some l) none, type := tt, pos := pos, after := af, guard := gd } :: rest) a w := k
set_option maxRecDepth 100000 in
set_option maxHeartbeats 1000000 in
theorem handed_any (ga : Option Addr) (gc : Nat) (L : List Nat) (ea : Option Addr) (ec : Nat) (wh : List Int) (w : World) (hL : L.length ≤ 1000000) (hwl : wh.length ≤ 17592186043904) (hg : Sl w ga (vN L)) (hgn : ga = none → L.length = 0 ∧ gc = 0) (hs : Sl w ea (vI wh)) (hwf : Wf wh) :
    Calls Try.prog 18 #[.slice ga L.length gc, .slice ea wh.length ec] w fun r w' => ∃ (out : List Nat) (ad : Option Addr) (cap : Nat), r = .returned (.slice ad L.length cap) ∧ out.Perm L ∧ w'.ownsRow w.heap.size 3 1 (.slice ad L.length cap) L.length (vN out) ∧ Below w.heap.size w w' := by
  have HS := Lib.hid hs
  have HWF := Lib.hid hwf
  have HG := Lib.hid hg
  have HGN := Lib.hid hgn
  clear hs hwf hg hgn
  have h63 : 0 + L.length ≤ maxLen := by unfold maxLen; omega
  have hby : (0 + L.length) * 8 ≤ 140737488355328 := by omega
  go_enter Try.func18, Try.ntmps18
  go_wp2_with (at_builtin; refine wpList_append_sl_at rfl _ _ 22 rfl w.heap.size 3 (.int .i64 0) 1 8 Try.underlying22 infoI (by rfl) (by decide) (.slice none 0 0) 0 [] (by rfl) (World.ownsRow_nil _ _ _ _) ga L.length gc (vN L) (by rfl) HGN.out (by rw [vN_length]; omega) HG.out (oneCell_vN _) h63 hby (Nat.le_refl _) ?a1)
  intro v1 w1 ho hg hl1
  have HO := Lib.hid (show w1.ownsRow w.heap.size 3 1 v1 L.length (vN L) by simpa using ho)
  have HB := Lib.hid ((Below.refl w.heap.size w).grown hg (Nat.le_refl _) (fun k hk => by cases hk))
  clear ho hg hl1
  go_wp2
  go_loopw [5, 6, 7, 8, 9] (fun v5 v6 i x8 x9 wr => ∃ (j : Nat) (v5' v6' : Value) (Lf out : List Nat), v5' = v5 ∧ v6' = v6 ∧ i = .int .i64 j ∧ Lf.length + j = L.length ∧ out.length = j ∧ (out ++ Lf).Perm L ∧
      wr.ownsRow w.heap.size 3 1 v5' Lf.length (vN Lf) ∧ wr.ownsRow w.heap.size 3 1 v6' j (vN out) ∧ Apart v5' v6' ∧ Below w.heap.size w wr) (fun _ _ i _ _ _ => L.length - (intOf i).toNat)
  case atStart => exact ⟨0, _, _, L, [], rfl, rfl, rfl, rfl, rfl, List.Perm.refl _, HO.out, World.ownsRow_nil _ _ _ _, (fun k hk e => by cases e), HB.out⟩
  case round =>
    clear HO HB
    obtain ⟨j, v5, v6, Lf, out, hv5, hv6, rfl, hlen, hol, hperm, ho5, ho6, hap, hb⟩ := hrel
    subst hv5 hv6
    have HLEN := Lib.hid hlen
    have HOL := Lib.hid hol
    have HPE := Lib.hid hperm
    have HO5 := Lib.hid ho5
    have HO6 := Lib.hid ho6
    have HAP := Lib.hid hap
    have HB := Lib.hid hb
    have hjl : j ≤ L.length := by omega
    have hLfm : Lf.length ≤ 1000000 := by omega
    clear hperm ho5 ho6 hap hb hol
    by_cases hlt : j < L.length
    · have t0 : decide ((j : Int) < (L.length : Int)) = true := by simp; omega
      have hLf0 : 0 < Lf.length := by omega
      clear hlen
      obtain ⟨vad, vcap, hv5e, hle5, _, hs5, _⟩ := owns_len HO5.out
      obtain ⟨gl, rfl⟩ := hs5 hLf0
      subst hv5e
      have HSL := Lib.hid (sl_of_owns HO5.out)
      clear hs5
      -- the pick
      go_upto_if 22 with fail
      go_cut [8] from 22 to 29 (fun s W => ∃ kk : Nat, kk < Lf.length ∧ s = .int .i64 kk ∧ wr = W)
      case first =>
        by_cases hw : j < wh.length
        · have t1 : decide ((j : Int) < (wh.length : Int)) = true := by simp; omega
          have i1 : (j : Int) < (wh.length : Int) := by omega
          obtain ⟨b, o, rfl, z0⟩ := int_at (HS.out.below HB.out HS.out.lt) j hw
          have HX := Lib.hid (HWF.out _ (List.getElem_mem hw))
          generalize wh[j] = x at z0 HX
          have K25 := Lib.hid (round_any x Lf.length wr HX.out hLf0 (by omega))
          have HR := Lib.hid (rnd_lt x hLf0)
          generalize rnd x Lf.length = a at K25 HR
          go_wp2_with (go_at_call 25; refine K25.out.mono ?_; rintro r0 w2 ⟨rfl, rfl⟩)
          go_meet
          exact ⟨a, HR.out, rfl, rfl⟩
        · have t1 : decide ((j : Int) < (wh.length : Int)) = false := by simp; omega
          go_wp2
          go_meet
          exact ⟨0, hLf0, rfl, rfl⟩
      case rest =>
        obtain ⟨kk, hkk, rfl, hwr⟩ := hcut
        subst hwr
        have i2 : (kk : Int) < (Lf.length : Int) := by omega
        have z1 : wr.cell? ⟨gl, kk, none⟩ = some (.int .i64 ((Lf.getD kk 0 : Nat) : Int)) := owns_cell HO5.out kk (vN_get Lf kk hkk)
        have HPP := Lib.hid (perm_pick HPE.out hkk)
        have HLT := Lib.hid (show (Lf.take kk).length = kk by rw [List.length_take]; omega)
        have HLD := Lib.hid (show (Lf.drop (kk + 1)).length = Lf.length - (kk + 1) by rw [List.length_drop])
        have HLN := Lib.hid (show Lf.length + j = L.length from HLEN.out)
        obtain ⟨dl, hdl⟩ : ∃ d, Lf.length = kk + 1 + d := ⟨Lf.length - (kk + 1), by omega⟩
        have HDL := Lib.hid hdl
        have hdm : kk + dl ≤ 1000000 := by omega
        have hrA : ∀ W, (Instr.slice 22 (.slice (some ⟨gl, 0, none⟩) Lf.length vcap) none (some (.int .i64 (kk : Int))) none).run Try.prog W = .ok (.slice (some ⟨gl, 0, none⟩) kk vcap) W := fun W =>
          run_slice_hi (P := Try.prog) Try.underlying22 sz3 (some ⟨gl, 0, none⟩) ⟨gl, 0, rfl⟩ Lf.length vcap .i64 kk kk rfl (by omega) W
        have hrB : ∀ W, (Instr.slice 22 (.slice (some ⟨gl, 0, none⟩) Lf.length vcap) (some (.int .i64 ((kk : Int) + 1))) none none).run Try.prog W = .ok (.slice (piece (some ⟨gl, 0, none⟩) (kk + 1) vcap 1) dl (vcap - (kk + 1))) W := fun W =>
          run_slice_lo (P := Try.prog) Try.underlying22 sz3 (some ⟨gl, 0, none⟩) Lf.length vcap .i64 ((kk : Int) + 1) (kk + 1) dl (by omega) HDL.out W
        have HPN := Lib.hid (show piece (some ⟨gl, 0, none⟩) (kk + 1) vcap 1 = none → dl = 0 ∧ vcap - (kk + 1) = 0 from fun e => by
          unfold piece at e
          split at e
          · cases e
          · cases e)
        have HTK := Lib.hid (show (vN (Lf.take kk)).length = kk * 1 by rw [vN_length, HLT.out, Nat.mul_one])
        have HDK := Lib.hid (show (vN (Lf.drop (kk + 1))).length = dl * 1 by rw [vN_length, HLD.out, Nat.mul_one]; omega)
        have HST := Lib.hid (sl_take HSL.out kk)
        have HSD := Lib.hid (sl_drop HSL.out (kk + 1) vcap hle5)
        have HSO := Lib.hid HO5.out
        have HGL := Lib.hid (HO5.out.lt gl rfl)
        have a1 : j + 1 ≤ maxLen := by unfold maxLen; omega
        have a2 : (j + 1) * 8 ≤ 140737488355328 := by omega
        have a3 : 0 + kk ≤ maxLen := by unfold maxLen; omega
        have a4 : (0 + kk) * 8 ≤ 140737488355328 := by omega
        have a5 : 0 + kk + dl ≤ maxLen := by unfold maxLen; omega
        have a6 : (0 + kk + dl) * 8 ≤ 140737488355328 := by omega
        have hbs : w.heap.size ≤ (wr.alloc (.cells #[.int .i64 (Lf.getD kk 0 : Nat)] 3)).heap.size := (HB.out.alloc HB.out.size _).size
        have HKL := Lib.hid hkk
        have HLE5 := Lib.hid hle5
        clear hdl hkk hle5
        generalize hpk : Lf.getD kk 0 = pk at z1 HPP hbs
        clear hpk
        have HBA := Lib.hid (HB.out.alloc HB.out.size (.cells #[.int .i64 pk] 3))
        go_wp2_with (first
          | (at_builtin; refine wpList_append_sl_at rfl _ _ 22 rfl w.heap.size 3 (.int .i64 0) 1 8 Try.underlying22 infoI (by rfl) (by decide) v6 j (vN out) (by rfl) (HO6.out.alloc _) (some ⟨wr.heap.size, 0, none⟩) 1 1 (vN [pk]) (by rfl) (fun h => by cases h) (by rfl) (sl_new _ _ _ _) (oneCell_vN _) a1 a2 hbs ?b1; intro v7 w4 ho4 hg4 hl4; have HB4 := Lib.hid (HBA.out.grown hg4 hbs (fun q hq => (HO6.out.lt q hq).1)); have HO4 := Lib.hid ho4; have hs4 := hg4.size; have HS4 := Lib.hid ((HO5.out.alloc (.cells #[.int .i64 pk] 3)).kept hg4 (.inr (fun e => HAP.out gl rfl e.symm))); have HL4 := Lib.hid hl4; clear ho4 hg4 hl4)
          | (at_builtin; refine wpList_append_sl_at rfl _ _ 22 rfl w4.heap.size 3 (.int .i64 0) 1 8 Try.underlying22 infoI (by rfl) (by decide) (.slice none 0 0) 0 [] (by rfl) (World.ownsRow_nil _ _ _ _) (some ⟨gl, 0, none⟩) kk vcap (vN (Lf.take kk)) (by rfl) (fun h => by cases h) HTK.out (sl_take (sl_of_owns HS4.out) kk) (oneCell_vN _) a3 a4 (Nat.le_refl _) ?b2; intro v8 w5 ho5 hg5 hl5; have HB5 := Lib.hid (HB4.out.grown hg5 HB4.out.size (fun q hq => by cases hq)); have HO5' := Lib.hid ho5; have hs5 := hg5.size; have HS5 := Lib.hid (HS4.out.kept hg5 (.inr (fun e => by cases e))); have HL5 := Lib.hid hl5; have HO4' := Lib.hid (HO4.out.kept hg5 (none_or _)); have HV8 := Lib.hid (fun k (hk : v8.ownBlock = some k) => (ho5.lt k hk).1); clear ho5 hg5 hl5)
          | (at_builtin; refine wpList_append_sl_at rfl _ _ 22 rfl w4.heap.size 3 (.int .i64 0) 1 8 Try.underlying22 infoI (by rfl) (by decide) v8 (0 + kk) ([] ++ vN (Lf.take kk)) (by rfl) HO5'.out (piece (some ⟨gl, 0, none⟩) (kk + 1) vcap 1) dl (vcap - (kk + 1)) (vN (Lf.drop (kk + 1))) (by rfl) HPN.out HDK.out (sl_drop (sl_of_owns HS5.out) (kk + 1) vcap HLE5.out) (oneCell_vN _) a5 a6 hs5 ?b3; intro v9 w6 ho6 hg6 hl6; have HB6 := Lib.hid (HB5.out.grown hg6 HB5.out.size (fun q hq => by have := (HO5'.out.lt q hq).1; have := HB4.out.size; omega)); have HO6' := Lib.hid ho6; have HL6 := Lib.hid hl6; have HG6 := Lib.hid hg6; clear ho6 hg6 hl6)
          | ((with_reducible refine at_hi_op ?_); refine wpList_slice_hi Try.underlying22 (.slice (some ⟨gl, 0, none⟩) Lf.length vcap) (.int .i64 (kk : Int)) _ ?_ ?_ hrA ?_; exact rfl; exact rfl)
          | ((with_reducible refine at_lo_op ?_); refine wpList_slice_lo Try.underlying22 (.slice (some ⟨gl, 0, none⟩) Lf.length vcap) (.int .i64 ((kk : Int) + 1)) _ ?_ ?_ hrB ?_; exact rfl; exact rfl))
        go_wp2
        go_roundw
        case rel =>
          refine ⟨j + 1, v9, v7, Lf.take kk ++ Lf.drop (kk + 1), out ++ [pk], rfl, rfl, by go_num, ?_, ?_, HPP.out, ?_, ?_, ?_, HB6.out⟩
          · have := HDL.out; have := HLN.out; rw [List.length_append, HLT.out, HLD.out]; omega
          · rw [List.length_append, HOL.out]; rfl
          · have e : (Lf.take kk ++ Lf.drop (kk + 1)).length = 0 + kk + dl := by have := HDL.out; rw [List.length_append, HLT.out, HLD.out]; omega
            rw [e, vN_append]
            exact owns_base HO6'.out HB4.out.size
          · rw [vN_append]
            exact HO4'.out.kept HG6.out (by
              cases hv : v7.ownBlock with
              | none => exact .inl rfl
              | some k => exact .inr (fun e => by
                  have e1 := HV8.out k e.symm
                  have e2 := (HO4.out.lt k hv).2
                  omega))
          · intro k hk e
            have e2 := (HO4.out.lt k e).2
            rcases HL6.out with h | h
            · have e1 := HV8.out k (h ▸ hk); omega
            · rw [h] at hk; injection hk with hk; omega
        case measure => simp [intOf]; omega
    · have t0 : decide ((j : Int) < (L.length : Int)) = false := by simp; omega
      have hje : j = L.length := by omega
      have HF := Lib.hid (show wr.ownsRow w.heap.size 3 1 v6 L.length (vN out) by rw [← hje]; exact HO6.out)
      have HP := Lib.hid (show out.Perm L by
        have h0 : Lf = [] := List.eq_nil_of_length_eq_zero (by omega)
        have := HPE.out
        rwa [h0, List.append_nil] at this)
      clear hje hlen
      obtain ⟨ad, cap, rfl, _, _, _, _⟩ := owns_len HF.out
      go_wp2
      go_ret
      exact ⟨out, ad, cap, rfl, HP.out, HF.out, HB.out⟩
end Go.Proofs.Ytpikmcapnmdmbaa
