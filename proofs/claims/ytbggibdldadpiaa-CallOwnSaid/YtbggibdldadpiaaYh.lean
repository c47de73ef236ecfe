/-
  Layer 19: an entry joins a contract.
-/
import Derived.Test.YtbggibdldadpiaaYg
import Derived.Test.YtbggibdldadpiaaHc
namespace Go.Proofs.Ytbggibdldadpiaa
open Go.RowKit Go.K
set_option linter.unusedVariables false
set_option linter.unusedSimpArgs false
theorem clone_all (a : Option Addr) (c : Nat) (l : List Int) (w : World) (hl : l.length ≤ 17592186043904) (hs : Sl w a (vI l)) (hn : a = none → l.length = 0 ∧ c = 0) :
    Calls Try.prog 51 #[.slice a l.length c] w fun r w' => ∃ a' c', r = .returned (.slice a' l.length c') ∧ w'.ownsRow w.heap.size 3 1 (.slice a' l.length c') l.length (vI l) ∧ Below w.heap.size w w' := by
  cases a with
  | some x =>
    have HS := Lib.hid hs
    clear hs hn
    have hnil := eql24 (some x)
    go_enter Try.func51, Try.ntmps51
    have HB := Lib.hid ((Below.refl w.heap.size w).alloc (Nat.le_refl _) (.cells #[] 3))
    have HO := Lib.hid (show (w.alloc (.cells #[] 3)).ownsRow w.heap.size 3 1 (.slice (some ⟨w.heap.size, 0, none⟩) 0 0) 0 [] from ⟨rfl, .inr ⟨w.heap.size, 0, #[], rfl, Nat.le_refl _, alloc_at rfl, Nat.le_refl _, Nat.zero_le _, rfl, rfl⟩⟩)
    have h63 : 0 + l.length ≤ maxLen := by unfold maxLen; omega
    have hby : (0 + l.length) * 8 ≤ 140737488355328 := by omega
    go_wp2_with (at_builtin; refine wpList_append_sl rfl _ _ 24 rfl w.heap.size 3 (.int .i64 0) 1 8 Try.underlying24 infoI (by rfl) (by decide) (.slice (some ⟨w.heap.size, 0, none⟩) 0 0) 0 [] (by rfl) HO.out (some x) l.length c (vI l) (by rfl) (fun h => by cases h) (by rw [vI_length]; omega) (HS.out.kept HB.out) (oneCell_vI _) h63 hby HB.out.size ?a9)
    intro v1 w1 ho hg
    have HO1 := Lib.hid (show w1.ownsRow w.heap.size 3 1 v1 l.length (vI l) by simpa using ho)
    have HB1 := Lib.hid (HB.out.grown hg HB.out.size (fun k hk => by cases hk; exact Nat.le_refl _))
    clear ho hg
    obtain ⟨a', c', rfl, _⟩ := owns_slice HO1.out
    go_wp2
    go_ret
    exact ⟨a', c', rfl, HO1.out, HB1.out⟩
  | none =>
    obtain ⟨h1, rfl⟩ := hn rfl
    obtain rfl : l = [] := List.length_eq_zero_iff.1 h1
    have hnil := eql24 none
    go_enter Try.func51, Try.ntmps51
    go_wp2
    go_ret
    exact ⟨none, 0, rfl, World.ownsRow_nil _ _ _ _, Below.refl _ _⟩
/-- An entry whose wishes lie in memory of its own. -/
structure NewE (B : Nat) (W : World) (x : Ent) : Prop where
  row : W.ownsRow B 3 1 (.slice x.wa x.ws.length x.wc) x.ws.length (vI x.ws)
  mx : x.ws.length ≤ 17592186043904
  wf : Wf x.ws
  iw : (Lit.int .i64 x.item).wf = true
  cw : (Lit.int .u64 x.coins).wf = true
  pw : (Lit.int .u64 x.price).wf = true
theorem NewE.ok {B : Nat} {W : World} {x : Ent} (h : NewE B W x) : EntOk W x := by
  obtain ⟨a', c', hv, hn, hs, hle⟩ := owns_slice h.row
  injection hv with h1 h2 h3
  subst h1 h3
  exact ⟨hs, hle, h.mx, hn, h.wf, h.iw, h.cw, h.pw⟩
theorem NewE.kept {B : Nat} {W W' : World} {x : Ent} (h : NewE B W x) (hb : Below W.heap.size W W') : NewE B W' x := ⟨owns_below (B := 0) h.row hb, h.mx, h.wf, h.iw, h.cw, h.pw⟩
theorem NewE.base {B B' : Nat} {W : World} {x : Ent} (h : NewE B W x) (hb : B' ≤ B) : NewE B' W x := ⟨owns_base h.row hb, h.mx, h.wf, h.iw, h.cw, h.pw⟩
theorem NewE.grown {B B' : Nat} {W W' : World} {x : Ent} {v : Value} {n : Nat} {xs : List Value} (h : NewE B W x) (ho : W.ownsRow B' 53 5 v n xs) (hg : W.grownBy W' v.ownBlock) : NewE B W' x :=
  ⟨h.row.kept hg (owns_apart h.row ho (by decide)), h.mx, h.wf, h.iw, h.cw, h.pw⟩
theorem NewE.put {B g : Nat} {W W' : World} {x : Ent} {o : Obj} (h : NewE B W x) (hp : Put W g o W') (hg : g < B) : NewE B W' x :=
  ⟨h.row.kept hp.grown (.inr (fun e => by have := (h.row.lt g e).1; omega)), h.mx, h.wf, h.iw, h.cw, h.pw⟩
structure NewC (B : Nat) (W : World) (l : Con) : Prop where
  row : W.ownsRow B 53 5 (.slice l.ea l.es.length l.ec) l.es.length (eFlat l.es)
  ents : ∀ e ∈ l.es, NewE B W e
  mx : l.es.length ≤ 2513169434843
theorem NewC.ok {B : Nat} {W : World} {x : Con} (h : NewC B W x) : ConOk W x := by
  obtain ⟨a', c', hv, hn, hs, hle⟩ := owns_slice h.row
  injection hv with h1 h2 h3
  subst h1 h3
  exact ⟨hs, fun e he => (h.ents e he).ok, hle, h.mx, hn⟩
theorem NewC.kept {B : Nat} {W W' : World} {x : Con} (h : NewC B W x) (hb : Below W.heap.size W W') : NewC B W' x := ⟨owns_below (B := 0) h.row hb, fun e he => (h.ents e he).kept hb, h.mx⟩
theorem NewC.base {B B' : Nat} {W : World} {x : Con} (h : NewC B W x) (hb : B' ≤ B) : NewC B' W x := ⟨owns_base h.row hb, fun e he => (h.ents e he).base hb, h.mx⟩
/-- What Join answers. -/
def joinV (c : Con) (e : Ent) : Int := if c.kind = 5 ∧ e.ws.length = 0 ∧ 0 ≤ e.item then (if rgt e = true then (if hasA c.es e.acc = true then 236 else if 16 ≤ c.es.length then 232 else 0) else 210) else 200
def conZ : Con := ⟨0, 0, 0, 0, 0, 0, 0, 0, 0, 0, none, 0, []⟩
def joinD (c : Con) (e : Ent) : (Int × Int × Int × Int × Int) × (Int × Int × Int × Int × Int) × List (Int × Int × Int × Int × List Int) := ((c.num, c.kind, c.by', c.dl, c.to'), (c.want, c.price, c.reserve, c.step, c.of'), c.es.map Ent.d ++ [e.d])
def JoinAns (w : World) (c : Con) (e : Ent) (r : Ending) (w' : World) : Prop :=
  ∃ d : Con, r = .returned (.tuple #[d.agg, .slice none 0 0, .bool false, .int .i64 (joinV c e)]) ∧ Below w.heap.size w w' ∧ NewC w.heap.size w' d ∧ d.d = if joinV c e = 0 then joinD c e else conZ.d
theorem conZ_new (B : Nat) (W : World) : NewC B W conZ := ⟨World.ownsRow_nil _ _ _ _, fun e h => absurd h (by simp [conZ]), Nat.zero_le _⟩
theorem joinA_no {w w' : World} {c : Con} {e : Ent} {r : Ending} (v : Int) (hv : joinV c e = v) (h0 : v ≠ 0) (hr : r = .returned (.tuple #[conZ.agg, .slice none 0 0, .bool false, .int .i64 v])) (hb : Below w.heap.size w w') : JoinAns w c e r w' :=
  ⟨conZ, by rw [hv]; exact hr, hb, conZ_new _ _, by rw [hv, if_neg h0]⟩
theorem made43 (n : Nat) (h : n ≤ 2513169434843) : ∃ MC : Array Value, MC.size = (n + 1) * 5 ∧ ∀ W : World, (Instr.makeSlice 49 (.int .i64 0) (.int .i64 ((n : Int) + 1))).run Try.prog W = .ok (.slice (some ⟨W.heap.size, 0, none⟩) 0 (n + 1)) (W.alloc (.cells MC 53)) := by
  obtain ⟨i, hi, hz, hs, hb⟩ := info_parts infoE
  refine ⟨madeCells (Value.agg #[.int .i64 0, .int .i64 0, .int .u64 0, .int .u64 0, .slice none 0 0]).cells ((n + 1) * 5), size_madeCells _ _, fun W => ?_⟩
  have := run_make (P := Try.prog) W 49 53 i _ Try.underlying49 hi hz .i64 .i64 0 ((n + 1 : Nat) : Int) (by omega) (by omega) (by rw [hb]; omega) (by omega)
  have e : ((n + 1 : Nat) : Int) = (n : Int) + 1 := by omega
  simp only [Int.toNat_natCast, Int.toNat_zero, hs] at this
  rw [e] at this
  exact this
end Go.Proofs.Ytbggibdldadpiaa
