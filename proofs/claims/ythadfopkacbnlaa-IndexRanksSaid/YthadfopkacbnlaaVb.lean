/-
  Layer 18: a kind's deals alone; two growing lists.
-/
import Derived.Test.YthadfopkacbnlaaVa
import Derived.Test.YthadfopkacbnlaaUb
import Derived.Test.YthadfopkacbnlaaGrow
import Derived.ChangeKeysEq
namespace Go.Proofs.Ythadfopkacbnlaa
open Go.RowKit Go.K Go.ChangeAt
set_option linter.unusedVariables false
set_option linter.unusedSimpArgs false
theorem and7i (x : Int) : bits .and .i64 x 7 = ((x % 8).toNat : Int) := by
  show IntKind.i64.wrap ((BitVec.ofInt 64 x &&& BitVec.ofInt 64 7).toNat : Int) = _
  rw [BitVec.toNat_and, show (BitVec.ofInt 64 7).toNat = 2 ^ 3 - 1 from rfl, Nat.and_two_pow_sub_one_eq_mod, BitVec.toNat_ofInt, IntKind.wrap_i64]
  omega
theorem beq_of {o : Option Ordering} (h : o = some .eq) : (o == some Ordering.eq) = true := by rw [h]; rfl
def mine (K : Nat) (l : List Dl) : List Dl := l.filter fun d => decide (d.k = K)
def flat (K p : Nat) (l : List Dl) : List Dl := l.map fun d => ⟨(K : Int), p, d.tick⟩
theorem mine_snoc (K : Nat) (l : List Dl) (d : Dl) : mine K (l ++ [d]) = mine K l ++ (if d.k = K then [d] else []) := by
  unfold mine
  rw [List.filter_append]
  congr 1
  by_cases h : d.k = K <;> simp [h]
theorem flat_snoc (K p : Nat) (l : List Dl) (d : Dl) : flat K p (l ++ [d]) = flat K p l ++ [⟨(K : Int), p, d.tick⟩] := by
  unfold flat; rw [List.map_append]; rfl
theorem mine_take (K : Nat) (l : List Dl) {i : Nat} (h : i < l.length) : mine K (l.take (i + 1)) = mine K (l.take i) ++ (if l[i].k = K then [l[i]] else []) := by
  rw [List.take_succ_eq_append_getElem h, mine_snoc]
theorem flat_take (K p : Nat) (l : List Dl) {i : Nat} (h : i < l.length) : flat K p (l.take (i + 1)) = flat K p (l.take i) ++ [⟨(K : Int), p, l[i].tick⟩] := by
  rw [List.take_succ_eq_append_getElem h, flat_snoc]
theorem mine_len (K : Nat) (l : List Dl) : (mine K l).length ≤ l.length := List.length_filter_le _ _
theorem flat_len (K p : Nat) (l : List Dl) : (flat K p l).length = l.length := by unfold flat; rw [List.length_map]
/-- The other kinds' deals are nothing to it. -/
theorem mine_line (K : Nat) (l : List Dl) : hearL (mine K l) K = hearL l K := by
  have key : ∀ (l : List Dl) (L M : Nat → Ln), L K = M K → (mine K l).foldl hstep M K = l.foldl hstep L K := by
    intro l
    induction l with
    | nil => intro L M h; exact h.symm
    | cons d l ih =>
      intro L M h
      rw [List.foldl_cons]
      unfold mine
      rw [List.filter_cons]
      by_cases c : d.k = K
      · rw [if_pos (by rw [decide_eq_true c]), List.foldl_cons]
        refine ih _ _ ?_
        unfold hstep
        rw [c, setL_same, setL_same, h]
      · rw [if_neg (by rw [decide_eq_false c]; simp)]
        refine ih _ _ ?_
        unfold hstep
        rw [setL_other _ _ _ (fun e => c e.symm)]; exact h
  exact key l _ _ rfl
theorem flat_k {K : Nat} (hK : K < 16) (p : Nat) (t : Int) : (⟨(K : Int), p, t⟩ : Dl).k = K := by
  show (plc (K : Int) 16).toNat = K
  unfold plc
  have h : (K : Int).tmod 16 = K := by rw [Int.tmod_eq_emod_of_nonneg (by omega)]; omega
  rw [h, if_neg (by omega)]
  omega
theorem flat_line {K : Nat} (hK : K < 16) (p : Nat) (l : List Dl) : (hearL (flat K p l) K).deals = (l.length : Int) ∧ (l.length ≠ 0 → (hearL (flat K p l) K).low = (p : Int) ∧ (hearL (flat K p l) K).high = (p : Int)) := by
  have key : ∀ i, i ≤ l.length → (hearL (flat K p (l.take i)) K).deals = (i : Int) ∧ (i ≠ 0 → (hearL (flat K p (l.take i)) K).low = (p : Int) ∧ (hearL (flat K p (l.take i)) K).high = (p : Int)) := by
    intro i
    induction i with
    | zero => intro _; exact ⟨rfl, fun h => absurd rfl h⟩
    | succ i ih =>
      intro hi
      obtain ⟨h1, h2⟩ := ih (by omega)
      rw [flat_take K p l (show i < l.length by omega), hearL_snoc]
      unfold hstep
      rw [flat_k hK, setL_same, dl_deals, dl_low, dl_high, h1]
      refine ⟨by omega, fun _ => ?_⟩
      by_cases c : (i : Int) = 0
      · rw [if_pos c, if_pos c]; exact ⟨rfl, rfl⟩
      · obtain ⟨e1, e2⟩ := h2 (by omega)
        rw [if_neg c, if_neg c, e1, e2]; simp
  have := key l.length (Nat.le_refl _)
  rw [List.take_length] at this
  exact this
/-- Two rows in blocks apart. -/
def Dis (u v : Value) : Prop := ∀ b, u.ownBlock = some b → v.ownBlock ≠ some b
theorem Dis.swap {u v : Value} (h : Dis u v) : Dis v u := fun b h1 h2 => h b h2 h1
theorem dis_append {W W' : World} {B B' : Nat} {e e' : TypeId} {s s' n n' : Nat} {v v' u : Value} {ys : List Value} (ho : W.ownsRow B' e' s' u n' ys) (hd : Dis v u) (hg : W.grownBy W' v.ownBlock)
    (hl : (v'.ownBlock = v.ownBlock ∧ v.ownBlock ≠ none) ∨ (v'.ownBlock = some W.heap.size ∧ Below W.heap.size W W')) : W'.ownsRow B' e' s' u n' ys ∧ Dis v' u := by
  refine ⟨ho.kept hg ?_, fun b h1 h2 => ?_⟩
  · cases hu : u.ownBlock with
    | none => exact .inl rfl
    | some b => exact .inr (fun h => hd b h.symm hu)
  · rcases hl with ⟨e1, _⟩ | ⟨e1, _⟩
    · exact hd b (e1 ▸ h1) h2
    · have := ho.lt b h2
      rw [e1] at h1
      cases h1
      omega
theorem owns_sl {w : World} {B : Nat} {e : TypeId} {s n : Nat} {v : Value} {xs : List Value} (h : w.ownsRow B e s v n xs) : ∃ a c, v = .slice a n c ∧ Sl w a xs := by
  rcases h.2 with ⟨rfl, h0⟩ | ⟨g, cap, cur, rfl, hb, hg, hn, hm, hs, ht⟩
  · refine ⟨none, 0, by rw [h0], fun hne => absurd ?_ hne⟩
    have := h.1
    rw [h0, Nat.zero_mul] at this
    exact List.length_eq_zero_iff.1 this
  · refine ⟨some ⟨g, 0, none⟩, cap, rfl, fun _ => ⟨g, 0, rfl, fun i hi => ?_⟩⟩
    rw [cell_of_row _ _ _ _ _ _ hg, ← ht, Nat.zero_add]
    rw [List.getElem?_take_of_lt (by rw [h.1] at hi; exact hi)]
    simp
theorem info61 : (Try.prog.info? 61).map (fun i => (i.zero, i.size, i.bytes)) = some (some (.agg #[.int .i64 0, .int .u64 0, .int .i64 0]), 3, 24) := by kernel_rfl
theorem one_dl (d : Dl) : ∀ u ∈ d.cells, u.oneCell' = true := by
  intro u hu
  simp only [Dl.cells, List.mem_cons, List.not_mem_nil, or_false] at hu
  rcases hu with rfl | rfl | rfl <;> rfl
/-- The same eight reals. -/
theorem eq57 (d : Nat → Nat) (h : ∀ t, FloatKind.f32.format.order (d t) (d t) = some .eq) (W : World) :
    (Op.equalIn 10000 57 (.agg #[.float .f32 (d 0), .float .f32 (d 1), .float .f32 (d 2), .float .f32 (d 3), .float .f32 (d 4), .float .f32 (d 5), .float .f32 (d 6), .float .f32 (d 7)]) (.agg #[.float .f32 (d 0), .float .f32 (d 1), .float .f32 (d 2), .float .f32 (d 3), .float .f32 (d 4), .float .f32 (d 5), .float .f32 (d 6), .float .f32 (d 7)])).run Try.prog W = .ok true W := by
  have hf : ∀ t, Op.floatEq .f32 (d t) (d t) = true := fun t => beq_of (h t)
  have h29 : (Try.prog.info? 29).map (·.size) = some 1 := by kernel_rfl
  obtain ⟨i, hi, hs⟩ := Option.map_eq_some_iff.1 h29
  have hc : Try.prog.cellsOf 29 = 1 := by kernel_rfl
  rw [run_equalIn_array W 9999 _ _ Try.underlying57 hi, hc]
  have ha : ∀ V, (isAgg 29).run Try.prog V = .ok false V := fun V => by
    unfold isAgg
    rw [Sem.run_bind, run_underlying Try.underlying29 V]; rfl
  have hf9 : ∀ (a : Nat) (V : World), (Op.equalIn 9999 29 (.float .f32 a) (.float .f32 a)).run Try.prog V = .ok (Op.floatEq .f32 a a) V := fun a V => run_equalIn_float V 9998 29 .f32 .f32 a a Try.underlying29
  simp [show List.range 8 = [0, 1, 2, 3, 4, 5, 6, 7] from rfl, Op.eqItems, part, ha, hf9, hf]
end Go.Proofs.Ythadfopkacbnlaa
