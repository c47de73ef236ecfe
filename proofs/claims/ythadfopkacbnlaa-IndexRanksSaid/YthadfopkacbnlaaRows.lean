/-
  No cell of these rows narrows 'for every input' (looked for: loops, veiled, ifaces, maps, wideKeys, modest, calm, conditions, laid).
  DERIVED. THE GIVEN ROWS OF THIS SEAT. 5 by the template 'for every input the law returns true; each argument reads behind the call as it read before'; 0 by the template 'total and deterministic' (their statements: YthadfopkacbnlaaTotals.lean).
  GIVEN WITH THE SEED: the statements are not yours to turn. If you find one false, say at which input.
  Laid BY PROGRAM, IN A SANDBOX (cutbox-rows.mjs): the forced cells as the released guide's own fill.sh prints them over the translation b6db8e768ba301f4… (all of the seat's roots in one cut). By AI agents, Wed Nov 11 2026. No macro, syntax, notation, axiom, sorry.
-/
import Derived.Test.YthadfopkacbnlaaChecked
import GoSem.Claim
import GoSem.ClaimJoined
import GoSem.ClaimMapViews
import Derived.JoinedTies
import Derived.KernelRfl
namespace Go.Proofs.Ythadfopkacbnlaa
/- THE CELL 'sum', in the pinned program and in every row, IS THE sha256 OF THE DUMP (.gsa) THAT YthadfopkacbnlaaProg.lean LOADS. Nothing in Lean hashes anything: it is a label: what it is worth is what the hold of that sum in a sandbox is worth. -/
noncomputable def Try.pinned : Pinned := { name := "ythadfopkacbnlaa", sum := "b6db8e768ba301f46e449300b180196c2672466fd471c6d98f272e442f6d2068", checked := Try.checked }
namespace Rows
def none {H : Type} : Left H := { results := [], args := [] }

/-- 'bazaarlaw18.IndexRanks': WHATEVER THE INPUT: true; the input reads as it did. -/
def indexRanksSpec : ChangeSpec := { name := "indexRanks", fn := fun _ => fun
  | [d] => { results := [.lit (.bool true)], args := [d] }
  | _ => none }
def indexRanksRow : OpenClaim := { program := "ythadfopkacbnlaa", sum := "b6db8e768ba301f46e449300b180196c2672466fd471c6d98f272e442f6d2068", func := "bazaar/bazaarlaw18.IndexRanks", spec := "indexRanks", inPlace := ["math.Float32frombits", "math.sqrt", "math.Float32bits"], unfollowed := true, recurses := true, apart := false }
def IndexRanksSaid : Prop := indexRanksRow.holds Try.pinned (OpenSpec.ofChange indexRanksSpec)

/-- ITS FALSE NEIGHBOUR: 'it returns false'. Refute it at one input. -/
def indexRanksWrong : ChangeSpec := { name := "indexRanks", fn := fun _ => fun
  | [d] => { results := [.lit (.bool false)], args := [d] }
  | _ => none }
def IndexRanksWrongFalsely : Prop := indexRanksRow.holds Try.pinned (OpenSpec.ofChange indexRanksWrong)

/-- 'bazaarlaw18.IndexPlays': WHATEVER THE INPUT: true; the input reads as it did. -/
def indexPlaysSpec : ChangeSpec := { name := "indexPlays", fn := fun _ => fun
  | [d] => { results := [.lit (.bool true)], args := [d] }
  | _ => none }
def indexPlaysRow : OpenClaim := { program := "ythadfopkacbnlaa", sum := "b6db8e768ba301f46e449300b180196c2672466fd471c6d98f272e442f6d2068", func := "bazaar/bazaarlaw18.IndexPlays", spec := "indexPlays", inPlace := ["math.Float32frombits", "math.Float32bits", "math.sqrt"], unfollowed := true, recurses := true, apart := false }
def IndexPlaysSaid : Prop := indexPlaysRow.holds Try.pinned (OpenSpec.ofChange indexPlaysSpec)

/-- ITS FALSE NEIGHBOUR: 'it returns false'. Refute it at one input. -/
def indexPlaysWrong : ChangeSpec := { name := "indexPlays", fn := fun _ => fun
  | [d] => { results := [.lit (.bool false)], args := [d] }
  | _ => none }
def IndexPlaysWrongFalsely : Prop := indexPlaysRow.holds Try.pinned (OpenSpec.ofChange indexPlaysWrong)

/-- 'bazaarlaw18.IndexBetween': WHATEVER THE INPUT: true; the input reads as it did. -/
def indexBetweenSpec : ChangeSpec := { name := "indexBetween", fn := fun _ => fun
  | [d] => { results := [.lit (.bool true)], args := [d] }
  | _ => none }
def indexBetweenRow : OpenClaim := { program := "ythadfopkacbnlaa", sum := "b6db8e768ba301f46e449300b180196c2672466fd471c6d98f272e442f6d2068", func := "bazaar/bazaarlaw18.IndexBetween", spec := "indexBetween", inPlace := ["math.Float32frombits", "math.sqrt", "math.Float32bits"], unfollowed := true, recurses := true, apart := false }
def IndexBetweenSaid : Prop := indexBetweenRow.holds Try.pinned (OpenSpec.ofChange indexBetweenSpec)

/-- ITS FALSE NEIGHBOUR: 'it returns false'. Refute it at one input. -/
def indexBetweenWrong : ChangeSpec := { name := "indexBetween", fn := fun _ => fun
  | [d] => { results := [.lit (.bool false)], args := [d] }
  | _ => none }
def IndexBetweenWrongFalsely : Prop := indexBetweenRow.holds Try.pinned (OpenSpec.ofChange indexBetweenWrong)

/-- 'bazaarlaw18.IndexAlone': WHATEVER THE INPUT: true; the input reads as it did. -/
def indexAloneSpec : ChangeSpec := { name := "indexAlone", fn := fun _ => fun
  | [d1, d2, d3, d4] => { results := [.lit (.bool true)], args := [d1, d2, d3, d4] }
  | _ => none }
def indexAloneRow : OpenClaim := { program := "ythadfopkacbnlaa", sum := "b6db8e768ba301f46e449300b180196c2672466fd471c6d98f272e442f6d2068", func := "bazaar/bazaarlaw18.IndexAlone", spec := "indexAlone", inPlace := ["math.Float32frombits", "math.sqrt", "math.Float32bits"], unfollowed := true, recurses := true, apart := false }
def IndexAloneSaid : Prop := indexAloneRow.holds Try.pinned (OpenSpec.ofChange indexAloneSpec)

/-- ITS FALSE NEIGHBOUR: 'it returns false'. Refute it at one input. -/
def indexAloneWrong : ChangeSpec := { name := "indexAlone", fn := fun _ => fun
  | [d1, d2, d3, d4] => { results := [.lit (.bool false)], args := [d1, d2, d3, d4] }
  | _ => none }
def IndexAloneWrongFalsely : Prop := indexAloneRow.holds Try.pinned (OpenSpec.ofChange indexAloneWrong)

/-- 'bazaarlaw18.IndexSwings': WHATEVER THE INPUT: true; the input reads as it did. -/
def indexSwingsSpec : ChangeSpec := { name := "indexSwings", fn := fun _ => fun
  | [d1, d2, d3] => { results := [.lit (.bool true)], args := [d1, d2, d3] }
  | _ => none }
def indexSwingsRow : OpenClaim := { program := "ythadfopkacbnlaa", sum := "b6db8e768ba301f46e449300b180196c2672466fd471c6d98f272e442f6d2068", func := "bazaar/bazaarlaw18.IndexSwings", spec := "indexSwings", inPlace := ["math.Float32frombits", "math.sqrt", "math.Float32bits"], unfollowed := true, recurses := true, apart := false }
def IndexSwingsSaid : Prop := indexSwingsRow.holds Try.pinned (OpenSpec.ofChange indexSwingsSpec)

/-- ITS FALSE NEIGHBOUR: 'it returns false'. Refute it at one input. -/
def indexSwingsWrong : ChangeSpec := { name := "indexSwings", fn := fun _ => fun
  | [d1, d2, d3] => { results := [.lit (.bool false)], args := [d1, d2, d3] }
  | _ => none }
def IndexSwingsWrongFalsely : Prop := indexSwingsRow.holds Try.pinned (OpenSpec.ofChange indexSwingsWrong)

/- THE SECOND FORM. 'bulk': how many values and letters a reading holds, each counted each time it is reached (what is shared counts as often as it is met; a slice's spare places count too). A statement '..UptoSaid' is the law's where the arguments, and the package variables that the reading takes, are together of bulk at most 1048576: NARROWER than '..Said'. Prove '..Said' where nothing that the law and all that it calls make is longer than what came in: it says more and counts as full. Else prove '..UptoSaid'. A law counts once. -/
mutual
def uptoBulk {H : Type} : DataW H → Nat
  | .lit (.string bytes) => bytes.length + 1
  | .lit _ => 1
  | .nil => 1
  | .ptr d => uptoBulk d + 1
  | .slice elems spare => uptoBulkAll elems + uptoBulkAll spare + 1
  | .agg parts => uptoBulkAll parts + 1
  | .iface _ d => uptoBulk d + 1
  | .map entries => uptoBulkEntries entries + 1
  | .held _ => 1
def uptoBulkAll {H : Type} : List (DataW H) → Nat
  | [] => 0
  | d :: r => uptoBulk d + uptoBulkAll r
def uptoBulkEntries {H : Type} : List (Lit × DataW H) → Nat
  | [] => 0
  | x :: r => uptoBulkEntry x + uptoBulkEntries r
def uptoBulkEntry {H : Type} : Lit × DataW H → Nat
  | (.string bytes, d) => bytes.length + uptoBulk d + 1
  | (_, d) => uptoBulk d + 1
 end
def uptoSmall : (H : Type) → List (DataW H) → Bool := fun _ ds => decide (uptoBulkAll ds ≤ 1048576)
def OpenSpec.upto (s : _root_.Go.ChangeSpec) : _root_.Go.OpenSpec := { _root_.Go.OpenSpec.ofChange s with cond := some uptoSmall }

/-- 'bazaarlaw18.IndexRanks', WHERE WHAT IT READS IS OF BULK AT MOST 1048576: true; the input reads as it did. -/
def indexRanksUptoRow : OpenClaim := { program := "ythadfopkacbnlaa", sum := "b6db8e768ba301f46e449300b180196c2672466fd471c6d98f272e442f6d2068", func := "bazaar/bazaarlaw18.IndexRanks", spec := "indexRanks", inPlace := ["math.Float32frombits", "math.sqrt", "math.Float32bits"], unfollowed := true, recurses := true, apart := false, narrowed := true }
def IndexRanksUptoSaid : Prop := indexRanksUptoRow.holds Try.pinned (OpenSpec.upto indexRanksSpec)

/-- 'bazaarlaw18.IndexPlays', WHERE WHAT IT READS IS OF BULK AT MOST 1048576: true; the input reads as it did. -/
def indexPlaysUptoRow : OpenClaim := { program := "ythadfopkacbnlaa", sum := "b6db8e768ba301f46e449300b180196c2672466fd471c6d98f272e442f6d2068", func := "bazaar/bazaarlaw18.IndexPlays", spec := "indexPlays", inPlace := ["math.Float32frombits", "math.Float32bits", "math.sqrt"], unfollowed := true, recurses := true, apart := false, narrowed := true }
def IndexPlaysUptoSaid : Prop := indexPlaysUptoRow.holds Try.pinned (OpenSpec.upto indexPlaysSpec)

/-- 'bazaarlaw18.IndexBetween', WHERE WHAT IT READS IS OF BULK AT MOST 1048576: true; the input reads as it did. -/
def indexBetweenUptoRow : OpenClaim := { program := "ythadfopkacbnlaa", sum := "b6db8e768ba301f46e449300b180196c2672466fd471c6d98f272e442f6d2068", func := "bazaar/bazaarlaw18.IndexBetween", spec := "indexBetween", inPlace := ["math.Float32frombits", "math.sqrt", "math.Float32bits"], unfollowed := true, recurses := true, apart := false, narrowed := true }
def IndexBetweenUptoSaid : Prop := indexBetweenUptoRow.holds Try.pinned (OpenSpec.upto indexBetweenSpec)

/-- 'bazaarlaw18.IndexAlone', WHERE WHAT IT READS IS OF BULK AT MOST 1048576: true; the input reads as it did. -/
def indexAloneUptoRow : OpenClaim := { program := "ythadfopkacbnlaa", sum := "b6db8e768ba301f46e449300b180196c2672466fd471c6d98f272e442f6d2068", func := "bazaar/bazaarlaw18.IndexAlone", spec := "indexAlone", inPlace := ["math.Float32frombits", "math.sqrt", "math.Float32bits"], unfollowed := true, recurses := true, apart := false, narrowed := true }
def IndexAloneUptoSaid : Prop := indexAloneUptoRow.holds Try.pinned (OpenSpec.upto indexAloneSpec)

/-- 'bazaarlaw18.IndexSwings', WHERE WHAT IT READS IS OF BULK AT MOST 1048576: true; the input reads as it did. -/
def indexSwingsUptoRow : OpenClaim := { program := "ythadfopkacbnlaa", sum := "b6db8e768ba301f46e449300b180196c2672466fd471c6d98f272e442f6d2068", func := "bazaar/bazaarlaw18.IndexSwings", spec := "indexSwings", inPlace := ["math.Float32frombits", "math.sqrt", "math.Float32bits"], unfollowed := true, recurses := true, apart := false, narrowed := true }
def IndexSwingsUptoSaid : Prop := indexSwingsUptoRow.holds Try.pinned (OpenSpec.upto indexSwingsSpec)

end Rows
end Go.Proofs.Ythadfopkacbnlaa
