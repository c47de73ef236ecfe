/-
  No cell of these rows narrows 'for every input' (looked for: loops, veiled, ifaces, maps, wideKeys, modest, calm, conditions, laid).
  DERIVED. THE GIVEN ROWS OF THIS SEAT. 7 by the template 'for every input the law returns true; each argument reads behind the call as it read before'; 0 by the template 'total and deterministic' (their statements: YtndhlgbpfkidbaaTotals.lean).
  GIVEN WITH THE SEED: the statements are not yours to turn. If you find one false, say at which input.
  Laid BY PROGRAM, IN A SANDBOX (cutbox-rows.mjs): the forced cells as the released guide's own fill.sh prints them over the translation 0c33aa6543047919… (all of the seat's roots in one cut). By AI agents, Wed Nov 11 2026. No macro, syntax, notation, axiom, sorry.
-/
import Derived.Test.YtndhlgbpfkidbaaChecked
import GoSem.Claim
import GoSem.ClaimJoined
import GoSem.ClaimMapViews
import Derived.JoinedTies
import Derived.KernelRfl
namespace Go.Proofs.Ytndhlgbpfkidbaa
/- THE CELL 'sum', in the pinned program and in every row, IS THE sha256 OF THE DUMP (.gsa) THAT YtndhlgbpfkidbaaProg.lean LOADS. Nothing in Lean hashes anything: it is a label: what it is worth is what the hold of that sum in a sandbox is worth. -/
noncomputable def Try.pinned : Pinned := { name := "ytndhlgbpfkidbaa", sum := "0c33aa65430479193f94dee14fb219beb535c2059ec8d322d3a2c7dd10cad09c", checked := Try.checked }
namespace Rows
def none {H : Type} : Left H := { results := [], args := [] }

/-- 'bazaarlaw06.LootDice': WHATEVER THE INPUT: true; the input reads as it did. -/
def lootDiceSpec : ChangeSpec := { name := "lootDice", fn := fun _ => fun
  | [d1, d2, d3] => { results := [.lit (.bool true)], args := [d1, d2, d3] }
  | _ => none }
def lootDiceRow : OpenClaim := { program := "ytndhlgbpfkidbaa", sum := "0c33aa65430479193f94dee14fb219beb535c2059ec8d322d3a2c7dd10cad09c", func := "bazaar/bazaarlaw06.LootDice", spec := "lootDice", recurses := true, apart := false }
def LootDiceSaid : Prop := lootDiceRow.holds Try.pinned (OpenSpec.ofChange lootDiceSpec)

/-- ITS FALSE NEIGHBOUR: 'it returns false'. Refute it at one input. -/
def lootDiceWrong : ChangeSpec := { name := "lootDice", fn := fun _ => fun
  | [d1, d2, d3] => { results := [.lit (.bool false)], args := [d1, d2, d3] }
  | _ => none }
def LootDiceWrongFalsely : Prop := lootDiceRow.holds Try.pinned (OpenSpec.ofChange lootDiceWrong)

/-- 'bazaarlaw06.LootOften': WHATEVER THE INPUT: true; the input reads as it did. -/
def lootOftenSpec : ChangeSpec := { name := "lootOften", fn := fun _ => fun
  | [d] => { results := [.lit (.bool true)], args := [d] }
  | _ => none }
def lootOftenRow : OpenClaim := { program := "ytndhlgbpfkidbaa", sum := "0c33aa65430479193f94dee14fb219beb535c2059ec8d322d3a2c7dd10cad09c", func := "bazaar/bazaarlaw06.LootOften", spec := "lootOften", inPlace := ["math.Float32frombits", "math.Float32bits", "math.Float64bits", "math.Float64frombits", "math.archTrunc", "math.archFloor", "math.archCeil", "math.RoundToEven"], unfollowed := true, recurses := true, apart := false }
def LootOftenSaid : Prop := lootOftenRow.holds Try.pinned (OpenSpec.ofChange lootOftenSpec)

/-- ITS FALSE NEIGHBOUR: 'it returns false'. Refute it at one input. -/
def lootOftenWrong : ChangeSpec := { name := "lootOften", fn := fun _ => fun
  | [d] => { results := [.lit (.bool false)], args := [d] }
  | _ => none }
def LootOftenWrongFalsely : Prop := lootOftenRow.holds Try.pinned (OpenSpec.ofChange lootOftenWrong)

/-- 'bazaarlaw06.LootWeighs': WHATEVER THE INPUT: true; the input reads as it did. -/
def lootWeighsSpec : ChangeSpec := { name := "lootWeighs", fn := fun _ => fun
  | [d1, d2] => { results := [.lit (.bool true)], args := [d1, d2] }
  | _ => none }
def lootWeighsRow : OpenClaim := { program := "ytndhlgbpfkidbaa", sum := "0c33aa65430479193f94dee14fb219beb535c2059ec8d322d3a2c7dd10cad09c", func := "bazaar/bazaarlaw06.LootWeighs", spec := "lootWeighs", inPlace := ["math.Float32frombits", "math.Float32bits", "math.Float64bits", "math.Float64frombits", "math.archTrunc", "math.archFloor", "math.archCeil", "math.RoundToEven"], unfollowed := true, recurses := true, apart := false }
def LootWeighsSaid : Prop := lootWeighsRow.holds Try.pinned (OpenSpec.ofChange lootWeighsSpec)

/-- ITS FALSE NEIGHBOUR: 'it returns false'. Refute it at one input. -/
def lootWeighsWrong : ChangeSpec := { name := "lootWeighs", fn := fun _ => fun
  | [d1, d2] => { results := [.lit (.bool false)], args := [d1, d2] }
  | _ => none }
def LootWeighsWrongFalsely : Prop := lootWeighsRow.holds Try.pinned (OpenSpec.ofChange lootWeighsWrong)

/-- 'bazaarlaw06.LootFair': WHATEVER THE INPUT: true; the input reads as it did. -/
def lootFairSpec : ChangeSpec := { name := "lootFair", fn := fun _ => fun
  | [d1, d2, d3] => { results := [.lit (.bool true)], args := [d1, d2, d3] }
  | _ => none }
def lootFairRow : OpenClaim := { program := "ytndhlgbpfkidbaa", sum := "0c33aa65430479193f94dee14fb219beb535c2059ec8d322d3a2c7dd10cad09c", func := "bazaar/bazaarlaw06.LootFair", spec := "lootFair", inPlace := ["math.Float32frombits", "math.Float32bits", "math.Float64bits", "math.Float64frombits", "math.archTrunc", "math.archFloor", "math.archCeil", "math.RoundToEven"], unfollowed := true, recurses := true, apart := false }
def LootFairSaid : Prop := lootFairRow.holds Try.pinned (OpenSpec.ofChange lootFairSpec)

/-- ITS FALSE NEIGHBOUR: 'it returns false'. Refute it at one input. -/
def lootFairWrong : ChangeSpec := { name := "lootFair", fn := fun _ => fun
  | [d1, d2, d3] => { results := [.lit (.bool false)], args := [d1, d2, d3] }
  | _ => none }
def LootFairWrongFalsely : Prop := lootFairRow.holds Try.pinned (OpenSpec.ofChange lootFairWrong)

/-- 'bazaarlaw06.LootLeaps': WHATEVER THE INPUT: true; the input reads as it did. -/
def lootLeapsSpec : ChangeSpec := { name := "lootLeaps", fn := fun _ => fun
  | [d1, d2, d3, d4] => { results := [.lit (.bool true)], args := [d1, d2, d3, d4] }
  | _ => none }
def lootLeapsRow : OpenClaim := { program := "ytndhlgbpfkidbaa", sum := "0c33aa65430479193f94dee14fb219beb535c2059ec8d322d3a2c7dd10cad09c", func := "bazaar/bazaarlaw06.LootLeaps", spec := "lootLeaps", inPlace := ["math.Float32frombits", "math.Float32bits", "math.Float64bits", "math.Float64frombits", "math.archTrunc", "math.archFloor", "math.archCeil", "math.RoundToEven"], unfollowed := true, recurses := true, apart := false }
def LootLeapsSaid : Prop := lootLeapsRow.holds Try.pinned (OpenSpec.ofChange lootLeapsSpec)

/-- ITS FALSE NEIGHBOUR: 'it returns false'. Refute it at one input. -/
def lootLeapsWrong : ChangeSpec := { name := "lootLeaps", fn := fun _ => fun
  | [d1, d2, d3, d4] => { results := [.lit (.bool false)], args := [d1, d2, d3, d4] }
  | _ => none }
def LootLeapsWrongFalsely : Prop := lootLeapsRow.holds Try.pinned (OpenSpec.ofChange lootLeapsWrong)

/-- 'bazaarlaw06.LootTables': WHATEVER THE INPUT: true; the input reads as it did. -/
def lootTablesSpec : ChangeSpec := { name := "lootTables", fn := fun _ => fun
  | [d1, d2, d3, d4, d5] => { results := [.lit (.bool true)], args := [d1, d2, d3, d4, d5] }
  | _ => none }
def lootTablesRow : OpenClaim := { program := "ytndhlgbpfkidbaa", sum := "0c33aa65430479193f94dee14fb219beb535c2059ec8d322d3a2c7dd10cad09c", func := "bazaar/bazaarlaw06.LootTables", spec := "lootTables", inPlace := ["math.Float32frombits", "math.Float32bits", "math.Float64bits", "math.Float64frombits", "math.archTrunc", "math.archFloor", "math.archCeil", "math.RoundToEven"], unfollowed := true, recurses := true, apart := false }
def LootTablesSaid : Prop := lootTablesRow.holds Try.pinned (OpenSpec.ofChange lootTablesSpec)

/-- ITS FALSE NEIGHBOUR: 'it returns false'. Refute it at one input. -/
def lootTablesWrong : ChangeSpec := { name := "lootTables", fn := fun _ => fun
  | [d1, d2, d3, d4, d5] => { results := [.lit (.bool false)], args := [d1, d2, d3, d4, d5] }
  | _ => none }
def LootTablesWrongFalsely : Prop := lootTablesRow.holds Try.pinned (OpenSpec.ofChange lootTablesWrong)

/-- 'bazaarlaw06.LootOwn': WHATEVER THE INPUT: true; the input reads as it did. -/
def lootOwnSpec : ChangeSpec := { name := "lootOwn", fn := fun _ => fun
  | [d1, d2, d3, d4, d5] => { results := [.lit (.bool true)], args := [d1, d2, d3, d4, d5] }
  | _ => none }
def lootOwnRow : OpenClaim := { program := "ytndhlgbpfkidbaa", sum := "0c33aa65430479193f94dee14fb219beb535c2059ec8d322d3a2c7dd10cad09c", func := "bazaar/bazaarlaw06.LootOwn", spec := "lootOwn", inPlace := ["math.Float32frombits", "math.Float32bits", "math.Float64bits", "math.Float64frombits", "math.archTrunc", "math.archFloor", "math.archCeil", "math.RoundToEven"], unfollowed := true, recurses := true, apart := false }
def LootOwnSaid : Prop := lootOwnRow.holds Try.pinned (OpenSpec.ofChange lootOwnSpec)

/-- ITS FALSE NEIGHBOUR: 'it returns false'. Refute it at one input. -/
def lootOwnWrong : ChangeSpec := { name := "lootOwn", fn := fun _ => fun
  | [d1, d2, d3, d4, d5] => { results := [.lit (.bool false)], args := [d1, d2, d3, d4, d5] }
  | _ => none }
def LootOwnWrongFalsely : Prop := lootOwnRow.holds Try.pinned (OpenSpec.ofChange lootOwnWrong)

/- THE SECOND FORM. 'bulk': how many values and letters a reading holds, each counted each time it is reached (what is shared counts as often as it is met; a slice's spare places count too). A statement '..UptoSaid' is the law's where the arguments, and the package variables that the reading takes, are together of bulk at most 1048576: NARROWER than '..Said'. Prove '..Said' where nothing that the law and all that it calls make is longer than what came in: it says more and counts as full. Else prove '..UptoSaid'. A law counts once. -/
mutual
def uptoBulk {H : Type} : DataW H → Nat
  | .lit (.string bytes) => bytes.length + 1
  | .lit _ => 1
  | .nil => 1
  | .ptr d => uptoBulk d + 1
  | .slice elems spare => uptoBulkAll elems + uptoBulkAll spare + 1
  | .agg parts => uptoBulkAll parts + 1
  | .iface _ d => uptoBulk d + 1
  | .map entries => uptoBulkEntries entries + 1
  | .held _ => 1
def uptoBulkAll {H : Type} : List (DataW H) → Nat
  | [] => 0
  | d :: r => uptoBulk d + uptoBulkAll r
def uptoBulkEntries {H : Type} : List (Lit × DataW H) → Nat
  | [] => 0
  | x :: r => uptoBulkEntry x + uptoBulkEntries r
def uptoBulkEntry {H : Type} : Lit × DataW H → Nat
  | (.string bytes, d) => bytes.length + uptoBulk d + 1
  | (_, d) => uptoBulk d + 1
 end
def uptoSmall : (H : Type) → List (DataW H) → Bool := fun _ ds => decide (uptoBulkAll ds ≤ 1048576)
def OpenSpec.upto (s : _root_.Go.ChangeSpec) : _root_.Go.OpenSpec := { _root_.Go.OpenSpec.ofChange s with cond := some uptoSmall }

/-- 'bazaarlaw06.LootDice', WHERE WHAT IT READS IS OF BULK AT MOST 1048576: true; the input reads as it did. -/
def lootDiceUptoRow : OpenClaim := { program := "ytndhlgbpfkidbaa", sum := "0c33aa65430479193f94dee14fb219beb535c2059ec8d322d3a2c7dd10cad09c", func := "bazaar/bazaarlaw06.LootDice", spec := "lootDice", recurses := true, apart := false, narrowed := true }
def LootDiceUptoSaid : Prop := lootDiceUptoRow.holds Try.pinned (OpenSpec.upto lootDiceSpec)

/-- 'bazaarlaw06.LootOften', WHERE WHAT IT READS IS OF BULK AT MOST 1048576: true; the input reads as it did. -/
def lootOftenUptoRow : OpenClaim := { program := "ytndhlgbpfkidbaa", sum := "0c33aa65430479193f94dee14fb219beb535c2059ec8d322d3a2c7dd10cad09c", func := "bazaar/bazaarlaw06.LootOften", spec := "lootOften", inPlace := ["math.Float32frombits", "math.Float32bits", "math.Float64bits", "math.Float64frombits", "math.archTrunc", "math.archFloor", "math.archCeil", "math.RoundToEven"], unfollowed := true, recurses := true, apart := false, narrowed := true }
def LootOftenUptoSaid : Prop := lootOftenUptoRow.holds Try.pinned (OpenSpec.upto lootOftenSpec)

/-- 'bazaarlaw06.LootWeighs', WHERE WHAT IT READS IS OF BULK AT MOST 1048576: true; the input reads as it did. -/
def lootWeighsUptoRow : OpenClaim := { program := "ytndhlgbpfkidbaa", sum := "0c33aa65430479193f94dee14fb219beb535c2059ec8d322d3a2c7dd10cad09c", func := "bazaar/bazaarlaw06.LootWeighs", spec := "lootWeighs", inPlace := ["math.Float32frombits", "math.Float32bits", "math.Float64bits", "math.Float64frombits", "math.archTrunc", "math.archFloor", "math.archCeil", "math.RoundToEven"], unfollowed := true, recurses := true, apart := false, narrowed := true }
def LootWeighsUptoSaid : Prop := lootWeighsUptoRow.holds Try.pinned (OpenSpec.upto lootWeighsSpec)

/-- 'bazaarlaw06.LootFair', WHERE WHAT IT READS IS OF BULK AT MOST 1048576: true; the input reads as it did. -/
def lootFairUptoRow : OpenClaim := { program := "ytndhlgbpfkidbaa", sum := "0c33aa65430479193f94dee14fb219beb535c2059ec8d322d3a2c7dd10cad09c", func := "bazaar/bazaarlaw06.LootFair", spec := "lootFair", inPlace := ["math.Float32frombits", "math.Float32bits", "math.Float64bits", "math.Float64frombits", "math.archTrunc", "math.archFloor", "math.archCeil", "math.RoundToEven"], unfollowed := true, recurses := true, apart := false, narrowed := true }
def LootFairUptoSaid : Prop := lootFairUptoRow.holds Try.pinned (OpenSpec.upto lootFairSpec)

/-- 'bazaarlaw06.LootLeaps', WHERE WHAT IT READS IS OF BULK AT MOST 1048576: true; the input reads as it did. -/
def lootLeapsUptoRow : OpenClaim := { program := "ytndhlgbpfkidbaa", sum := "0c33aa65430479193f94dee14fb219beb535c2059ec8d322d3a2c7dd10cad09c", func := "bazaar/bazaarlaw06.LootLeaps", spec := "lootLeaps", inPlace := ["math.Float32frombits", "math.Float32bits", "math.Float64bits", "math.Float64frombits", "math.archTrunc", "math.archFloor", "math.archCeil", "math.RoundToEven"], unfollowed := true, recurses := true, apart := false, narrowed := true }
def LootLeapsUptoSaid : Prop := lootLeapsUptoRow.holds Try.pinned (OpenSpec.upto lootLeapsSpec)

/-- 'bazaarlaw06.LootTables', WHERE WHAT IT READS IS OF BULK AT MOST 1048576: true; the input reads as it did. -/
def lootTablesUptoRow : OpenClaim := { program := "ytndhlgbpfkidbaa", sum := "0c33aa65430479193f94dee14fb219beb535c2059ec8d322d3a2c7dd10cad09c", func := "bazaar/bazaarlaw06.LootTables", spec := "lootTables", inPlace := ["math.Float32frombits", "math.Float32bits", "math.Float64bits", "math.Float64frombits", "math.archTrunc", "math.archFloor", "math.archCeil", "math.RoundToEven"], unfollowed := true, recurses := true, apart := false, narrowed := true }
def LootTablesUptoSaid : Prop := lootTablesUptoRow.holds Try.pinned (OpenSpec.upto lootTablesSpec)

/-- 'bazaarlaw06.LootOwn', WHERE WHAT IT READS IS OF BULK AT MOST 1048576: true; the input reads as it did. -/
def lootOwnUptoRow : OpenClaim := { program := "ytndhlgbpfkidbaa", sum := "0c33aa65430479193f94dee14fb219beb535c2059ec8d322d3a2c7dd10cad09c", func := "bazaar/bazaarlaw06.LootOwn", spec := "lootOwn", inPlace := ["math.Float32frombits", "math.Float32bits", "math.Float64bits", "math.Float64frombits", "math.archTrunc", "math.archFloor", "math.archCeil", "math.RoundToEven"], unfollowed := true, recurses := true, apart := false, narrowed := true }
def LootOwnUptoSaid : Prop := lootOwnUptoRow.holds Try.pinned (OpenSpec.upto lootOwnSpec)

end Rows
end Go.Proofs.Ytndhlgbpfkidbaa
