/-
  Reals: from chapter 3's Pf, what is needed here.
-/
import Derived.Test.YtndhlgbpfkidbaaRPe
import Derived.Test.YtndhlgbpfkidbaaGen
import Derived.StillTailTactics
namespace Go.Proofs.Ytndhlgbpfkidbaa.n03
open Go.RowKit Go.K Go.R
set_option linter.unusedVariables false
set_option linter.unusedSimpArgs false
theorem szL : (Try.prog.info? 2).map (·.size) = some 1 := by kernel_rfl
def iL (L : List Int) : List Value := L.map fun n => Value.int .i64 n
theorem iL_set (L : List Int) (k : Nat) (n : Int) (hk : k < L.length) : ((iL L).toArray.toList.take k ++ (Value.int .i64 n).cells.toList ++ (iL L).toArray.toList.drop (k + (Value.int .i64 n).cells.size)).toArray = (iL (L.set k n)).toArray := by
  congr 1
  show (iL L).take k ++ [Value.int .i64 n] ++ (iL L).drop (k + 1) = iL (L.set k n)
  unfold iL
  rw [List.map_set, List.set_eq_take_append_cons_drop, if_pos (by simpa using hk), List.append_assoc]
  rfl
theorem lm_put {W V : World} {g : Nat} {L : List Int} {k : Nat} {n : Int} (h : L.length = 11) (hp : Put W g (.cells (iL (L.set k n)).toArray 108) V) : Lm V g (L.set k n) := ⟨by rw [List.length_set]; exact h, hp.at'⟩
/-- k limbs carried. -/
def carryL : Nat → List Int → List Int
  | 0, L => L
  | k + 1, L => ((carryL k L).set (k + 1) ((carryL k L).getD (k + 1) 0 + (carryL k L).getD k 0 / 4294967296)).set k ((carryL k L).getD k 0 % 4294967296)
theorem and_i64_32 (a : Int) : bits .and .i64 a 4294967295 = a % 4294967296 := by
  show IntKind.i64.wrap (((BitVec.ofInt 64 a) &&& (BitVec.ofInt 64 4294967295)).toNat : Int) = _
  have h1 : ((BitVec.ofInt 64 a &&& BitVec.ofInt 64 4294967295).toNat : Int) = a % 4294967296 := by
    have e : (BitVec.ofInt 64 4294967295).toNat = 2 ^ 32 - 1 := by decide
    rw [BitVec.toNat_and, e, Nat.and_two_pow_sub_one_eq_mod, BitVec.toNat_ofInt]
    omega
  rw [h1, IntKind.wrap_i64]; omega
theorem Lm.cell2 {W : World} {g : Nat} {L : List Int} (h : Lm W g L) (k : Nat) (hk : k < 11) : W.cell? ⟨g, k, none⟩ = some (.int .i64 (L.getD k 0)) := by
  rw [h.cell k hk, List.getD_eq_getElem?_getD, List.getElem?_eq_getElem (by rw [h.1]; exact hk)]; rfl
theorem getD_set (L : List Int) (k j : Nat) (n : Int) (hk : k < L.length) : (L.set k n).getD j 0 = if j = k then n else L.getD j 0 := by
  rw [List.getD_eq_getElem?_getD, List.getElem?_set]
  by_cases h : k = j
  · subst h
    rw [if_pos rfl, if_pos hk, if_pos rfl]; rfl
  · rw [if_neg h, if_neg (fun e => h e.symm), List.getD_eq_getElem?_getD]
theorem carryL_len (k : Nat) (L : List Int) : (carryL k L).length = L.length := by
  induction k with
  | zero => rfl
  | succ k ih => unfold carryL; rw [List.length_set, List.length_set, ih]
theorem carryL_rng (L : List Int) (hl : L.length = 11) (hb : ∀ j, -2305843009213693952 ≤ L.getD j 0 ∧ L.getD j 0 ≤ 2305843009213693952) : ∀ k, k ≤ 10 → ∀ j, (-2305843011361177600 ≤ (carryL k L).getD j 0 ∧ (carryL k L).getD j 0 ≤ 2305843011361177600) ∧ (k < j → (carryL k L).getD j 0 = L.getD j 0)
  | 0, _, j => ⟨by have := hb j; show _ ≤ L.getD j 0 ∧ L.getD j 0 ≤ _; omega, fun _ => rfl⟩
  | k + 1, hk, j => by
    have ih := carryL_rng L hl hb k (by omega)
    have hlen : (carryL k L).length = 11 := by rw [carryL_len, hl]
    have h1 := ih k
    have h2 := ih (k + 1)
    have h3 := ih j
    have h4 := hb (k + 1)
    unfold carryL
    rw [getD_set _ _ _ _ (by rw [List.length_set]; omega), getD_set _ _ _ _ (by omega)]
    have h5 := h2.2 (by omega)
    constructor
    · split
      · omega
      · split
        · rw [h5]; omega
        · exact h3.1
    · intro hj
      rw [if_neg (by omega), if_neg (by omega)]
      exact h3.2 (by omega)
set_option maxRecDepth 100000 in
set_option maxHeartbeats 1000000 in
theorem carry_any (g : Nat) (L : List Int) (w : World) (hL : Lm w g L) (hb : ∀ j, -2305843009213693952 ≤ L.getD j 0 ∧ L.getD j 0 ≤ 2305843009213693952) :
    Calls Try.prog 89 #[.pointer (some ⟨g, 0, none⟩)] w fun r w' => r = .returned (.tuple #[]) ∧ Lm w' g (carryL 10 L) ∧ Only (fun n => n = g) w w' := by
  have HL := Lib.hid hL
  have HRG := Lib.hid (carryL_rng L hL.1 hb)
  have HLN := Lib.hid (fun k => (carryL_len k L).trans hL.1)
  clear hL hb
  go_enter Try.func89, Try.ntmps89
  go_wp2
  go_loopw [2, 3] (fun x2 ii V => ∃ k : Nat, k ≤ 10 ∧ ii = .int .i64 k ∧ Lm V g (carryL k L) ∧ Only (fun n => n = g) w V) (fun _ ii _ => 10 - (intOf ii).toNat)
  case atStart => exact ⟨0, by omega, rfl, HL.out, Only.refl _ _⟩
  case round =>
    obtain ⟨k, hk, rfl, hm, ho⟩ := hrel
    have HM := Lib.hid hm
    have HO := Lib.hid ho
    clear hm ho
    by_cases hlt : k < 10
    · have t0 : decide ((k : Int) < 10) = true := decide_eq_true (by omega)
      have t0n : decide (k < 10) = true := decide_eq_true hlt
      obtain ⟨k1, hk1⟩ : ∃ k1, k1 = k + 1 := ⟨_, rfl⟩
      have z1 := HM.out.cell2 k (by omega)
      have z2 := HM.out.cell2 k1 (by omega)
      have hw1 : IntKind.i64.wrap ((k : Int) + 1) = (k1 : Int) := by rw [IntKind.wrap_i64]; omega
      have ik : (k : Int) < 11 := by omega
      have ik1 : (k1 : Int) < 11 := by omega
      have r1 := (HRG.out k hk k).1
      have r2 := (HRG.out k hk k1).1
      have HCS := Lib.hid (show carryL (k + 1) L = ((carryL k L).set k1 ((carryL k L).getD k1 0 + (carryL k L).getD k 0 / 4294967296)).set k ((carryL k L).getD k 0 % 4294967296) by rw [hk1]; rfl)
      have hln := HLN.out k
      have HNE := Lib.hid (show k ≠ k1 by omega)
      generalize carryL k L = M at *
      have HGK := Lib.hid (show ∀ n, (M.set k1 n).getD k 0 = M.getD k 0 from fun n => by rw [getD_set _ _ _ _ (by omega), if_neg HNE.out])
      obtain ⟨s, hs⟩ : ∃ s : Int, s = M.getD k1 0 + M.getD k 0 / 4294967296 := ⟨_, rfl⟩
      have hw2 : IntKind.i64.wrap (M.getD k1 0 + M.getD k 0 / 4294967296) = s := by rw [IntKind.wrap_i64, hs]; omega
      rw [← hs] at HCS
      have hka : k < M.length := by omega
      have hkb : k1 < M.length := by omega
      have HROW := Lib.hid HM.out.2
      have HLM := Lib.hid HM.out
      have HK1 := Lib.hid hk1
      clear hs r1 r2 hk1 hln
      generalize hga : M.getD k 0 = a at *
      generalize hgb : M.getD k1 0 = b at *
      have HGA := Lib.hid hga
      clear hga hgb
      go_wp2
      go_still_tail 15, (by kernel_rfl)
      refine wpList_store_lit 2 g k1 (iL (M.set k1 s)).toArray (.int .i64 s) HROW.out szL (by show k1 + 1 ≤ (iL M).toArray.size; simp [iL]; omega) rfl (iL_set M k1 s hkb) ?_ ?_ ?_
      · rfl
      · rfl
      intro V1 hp1
      have HM1 := Lib.hid (show Lm V1 g (M.set k1 s) from lm_put HLM.out.1 hp1)
      have HO1 := Lib.hid (show Only (fun n => n = g) w V1 from (HO.out.trans (Only.of_below ((Qt.drewN wr 1).below wr.heap.size)) (fun b hb => .inl hb)).trans hp1.only (fun b hb => .inl hb))
      have z3 := HM1.out.cell2 k (by omega)
      rw [HGK.out] at z3
      have ha := and_i64_32 a
      clear hp1 z1 z2 hw2
      go_wp2
      go_still_tail 8, (by kernel_rfl)
      refine wpList_store_lit 2 g k (iL ((M.set k1 s).set k (a % 4294967296))).toArray (.int .i64 (a % 4294967296)) HM1.out.2 szL (by show k + 1 ≤ (iL (M.set k1 s)).toArray.size; simp [iL]; omega) rfl (iL_set (M.set k1 s) k (a % 4294967296) (by rw [List.length_set]; exact hka)) ?_ ?_ ?_
      · rfl
      · rfl
      intro V2 hp2
      have HM2 := Lib.hid (show Lm V2 g ((M.set k1 s).set k (a % 4294967296)) from lm_put HM1.out.1 hp2)
      have HO2 := Lib.hid (show Only (fun n => n = g) w V2 from (HO1.out.trans (Only.of_below ((Qt.drewN V1 1).below V1.heap.size)) (fun b hb => .inl hb)).trans hp2.only (fun b hb => .inl hb))
      rw [← HCS.out] at HM2
      clear hp2
      go_wp2
      go_roundw
      case rel => exact ⟨k1, by have := HK1.out; omega, by go_num, by rw [HK1.out]; exact HM2.out, HO2.out⟩
      case measure => have := HK1.out; simp [intOf]; omega
    · have t0 : decide ((k : Int) < 10) = false := decide_eq_false (by omega)
      have t0n : decide (k < 10) = false := decide_eq_false hlt
      have HE := Lib.hid (show Lm wr g (carryL 10 L) by have h := HM.out; rw [show k = 10 by omega] at h; exact h)
      go_wp2
      exact bodyPost_end (results_none Try.results89 _ _ _) rfl ⟨rfl, HE.out, HO.out⟩
end Go.Proofs.Ytndhlgbpfkidbaa.n03

