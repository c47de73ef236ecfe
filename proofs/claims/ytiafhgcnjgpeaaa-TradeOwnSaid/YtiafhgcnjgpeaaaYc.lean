/-
  Layer 20: gifts are written over, and gone on with: only their own block turns.
-/
import Derived.Test.YtiafhgcnjgpeaaaYb
import Derived.Test.YtiafhgcnjgpeaaaFull
namespace Go.Proofs.Ytiafhgcnjgpeaaa
open Go.RowKit Go.K
set_option linter.unusedVariables false
set_option linter.unusedSimpArgs false

theorem infoG : (Try.prog.info? 56).map (fun i => (i.zero, i.size, i.bytes)) = some (some (.agg #[.int .i64 0, .int .i64 0, .int .u64 0]), 3, 24) := by kernel_rfl
/-- A slice of n gifts whose block may be written (nothing is said of what it holds). -/
def GS (S : Nat → Prop) (W : World) (ad : Option Addr) (n : Nat) : Prop := n = 0 ∨ ∃ g cur, ad = some ⟨g, 0, none⟩ ∧ W.heap[g]? = some (.cells cur 56 (0, 0)) ∧ n * 3 ≤ cur.size ∧ S g
theorem GS.kept {S : Nat → Prop} {W W' : World} {ad : Option Addr} {n : Nat} (h : GS S W ad n) (hb : Below W.heap.size W W') : GS S W' ad n := by
  rcases h with h | ⟨g, cur, h1, h2, h3⟩
  · exact .inl h
  · exact .inr ⟨g, cur, h1, row_kept h2 hb, h3⟩
theorem GS.sl {S : Nat → Prop} {W : World} {ad : Option Addr} {n : Nat} (h : GS S W ad n) : ∃ olds : List Value, olds.length = n * 3 ∧ Sl W ad olds := by
  rcases h with h | ⟨g, cur, h1, h2, h3, _⟩
  · exact ⟨[], by simp [h], Sl.nil _ _⟩
  · refine ⟨cur.toList.take (n * 3), by simp; omega, fun hne => ⟨g, 0, h1, fun i hi => ?_⟩⟩
    rw [cell_of_row _ _ _ _ _ _ h2, Nat.zero_add]
    simp at hi
    rw [List.getElem?_take_of_lt (by omega), Array.getElem?_toList]
set_option maxRecDepth 100000 in
set_option maxHeartbeats 4000000 in
theorem spoilG_any (S : Nat → Prop) (ad : Option Addr) (n : Nat) (w : World) (hm : n ≤ 5864062014634) (hn0 : ad = none → n = 0) (hg : GS S w ad n) :
    Calls Try.prog 24 #[.slice ad n n] w fun r w' => r = .returned (.tuple #[]) ∧ Only S w w' := by
  have HG := Lib.hid hg
  have HN := Lib.hid hn0
  clear hg hn0
  go_enter Try.func24, Try.ntmps24
  go_wp2
  go_loopw [2] (fun i wr => ∃ j : Nat, j ≤ n ∧ i = .int .i64 j ∧ Only S w wr ∧ GS S wr ad n) (fun i _ => n - (intOf i).toNat)
  case atStart => exact ⟨0, by omega, rfl, Only.refl _ _, HG.out⟩
  case round =>
    clear HG
    obtain ⟨j, hj, rfl, ho, hg⟩ := hrel
    have HO := Lib.hid ho
    have HG := Lib.hid hg
    clear ho hg
    by_cases hlt : j < n
    · have t0 : decide ((j : Int) < (n : Int)) = true := by simp; omega
      have i1 : (j : Int) < (n : Int) := by omega
      have hnd : ∃ g cur, ad = some ⟨g, 0, none⟩ ∧ wr.heap[g]? = some (.cells cur 56 (0, 0)) ∧ n * 3 ≤ cur.size ∧ S g := by
        rcases HG.out with h | h
        · omega
        · exact h
      obtain ⟨g, cur, rfl, hrow, hsz, hSg⟩ := hnd
      go_wp2_with (refine wpList_store_lit 56 g (j * 3) (segA cur.toList (j * 3) [.int .i64 (-78), .int .i64 0, .int .u64 0]) (.agg #[.int .i64 (-78), .int .i64 0, .int .u64 0]) hrow sz56 (by show j * 3 + 3 ≤ cur.size; omega) rfl rfl ?_ ?_ ?_; exact rfl; exact rfl; intro w3 hp3)
      go_roundw
      case rel => exact ⟨j + 1, by omega, by go_num, HO.out.trans hp3.only (fun n hn => .inl (hn ▸ hSg)), .inr ⟨g, _, rfl, hp3.at', by rw [segA_size _ _ _ (by simp; omega)]; simpa using hsz, hSg⟩⟩
      case measure => simp [intOf]; omega
    · have t0 : decide ((j : Int) < (n : Int)) = false := by simp; omega
      obtain ⟨olds, hol, hsl⟩ := HG.out.sl
      have HSL := Lib.hid hsl
      have HOL := Lib.hid hol
      clear hsl hol
      go_wp2
      go_loopw [0, 3] (fun v' i wq => ∃ (q : Nat) (v : Value), v = v' ∧ q ≤ 20 ∧ i = .int .i64 q ∧ Only S w wq ∧ ((q = 0 ∧ v = .slice ad n n ∧ Sl wq ad olds) ∨ (0 < q ∧ ∃ xs, wq.ownsRow w.heap.size 56 3 v (n + q) xs))) (fun _ i _ => 20 - (intOf i).toNat)
      case atStart => exact ⟨0, _, rfl, by omega, rfl, HO.out, .inl ⟨rfl, rfl, HSL.out⟩⟩
      case round =>
        clear HO HSL HG
        obtain ⟨q, v, hv, hq, rfl, ho, hs⟩ := hrel
        subst hv
        have HO := Lib.hid ho
        have HS := Lib.hid hs
        clear ho hs
        by_cases hlq : q < 20
        · have t0 : decide ((q : Int) < 20) = true := by simp; omega
          have h1c : ∀ u ∈ [Value.int .i64 (-79), .int .i64 0, .int .u64 0], u.oneCell' = true := by
            intro u hu; simp only [List.mem_cons, List.not_mem_nil, or_false] at hu; rcases hu with rfl | rfl | rfl <;> rfl
          rcases HS.out with ⟨rfl, rfl, hsl⟩ | ⟨hq0, xs, hown⟩
          · have HSL := Lib.hid hsl
            clear hsl HS
            go_wp2_with (at_builtin; refine wpList_append_full rfl _ _ 37 rfl 56 (.agg #[.int .i64 0, .int .i64 0, .int .u64 0]) 3 24 Try.underlying37 infoG rfl ad n olds rfl HOL.out (HSL.out.kept ((Below.refl _ _).alloc (Nat.le_refl _) _)) HN.out ⟨wr.heap.size, 0, none⟩ 1 1 [.int .i64 (-79), .int .i64 0, .int .u64 0] rfl (by decide) rfl (sl_new _ _ _ _) h1c ?a2 ?a3 ?a5)
            case a2 => unfold maxLen; omega
            case a3 => omega
            intro v2 w2 ho2 hb2
            have HO2 := Lib.hid ((HO.out.trans (Only.of_below (S := fun _ => False) ((Below.refl wr.heap.size wr).alloc (Nat.le_refl _) _)) (fun _ h => h.elim)).trans (Only.of_below (S := fun _ => False) (a := wr.alloc (.cells #[.int .i64 (-79), .int .i64 0, .int .u64 0] 56)) (by simpa using hb2)) (fun _ h => h.elim))
            have HN2 := Lib.hid (owns_base ho2 (b' := w.heap.size) (by have := HO.out.size; omega))
            clear ho2 hb2
            go_wp2
            go_roundw
            case rel => exact ⟨1, _, rfl, by omega, by go_num, HO2.out, .inr ⟨by omega, _, HN2.out⟩⟩
            case measure => simp [intOf]
          · have HN1 := Lib.hid hown
            clear hown HS
            go_wp2_with (at_builtin; refine wpList_append_sl rfl _ _ 37 rfl w.heap.size 56 (.agg #[.int .i64 0, .int .i64 0, .int .u64 0]) 3 24 Try.underlying37 infoG rfl (by decide) v (n + q) xs rfl (HN1.out.alloc _) (some ⟨wr.heap.size, 0, none⟩) 1 1 [.int .i64 (-79), .int .i64 0, .int .u64 0] rfl (fun h => by cases h) rfl (sl_new _ _ _ _) h1c ?b2 ?b3 ?b4 ?b5)
            case b2 => unfold maxLen; omega
            case b3 => omega
            case b4 => have := HO.out.size; simp only [World.size_alloc]; omega
            intro v2 w2 ho2 hg2
            have HO2 := Lib.hid ((HO.out.trans (Only.of_below (S := fun _ => False) ((Below.refl wr.heap.size wr).alloc (Nat.le_refl _) _)) (fun _ h => h.elim)).trans (Only.of_grown (S := fun k => v.ownBlock = some k) hg2 (fun k hk => hk)) (fun n hn => .inr (HN1.out.lt n hn).1))
            have HN2 := Lib.hid ho2
            clear ho2 hg2
            go_wp2
            go_roundw
            case rel => exact ⟨q + 1, _, rfl, by omega, by go_num, HO2.out, .inr ⟨by omega, _, HN2.out⟩⟩
            case measure => simp [intOf]; omega
        · have t0 : decide ((q : Int) < 20) = false := by simp; omega
          go_wp2
          exact bodyPost_end (results_none Try.results24 _ _ _) rfl ⟨rfl, HO.out⟩
end Go.Proofs.Ytiafhgcnjgpeaaa
