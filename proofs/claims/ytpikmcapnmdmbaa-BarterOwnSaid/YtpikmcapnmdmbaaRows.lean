/-
  No cell of these rows narrows 'for every input' (looked for: loops, veiled, ifaces, maps, wideKeys, modest, calm, conditions, laid).
  DERIVED. THE GIVEN ROWS OF THIS SEAT. 7 by the template 'for every input the law returns true; each argument reads behind the call as it read before'; 0 by the template 'total and deterministic' (their statements: YtpikmcapnmdmbaaTotals.lean).
  GIVEN WITH THE SEED: the statements are not yours to turn. If you find one false, say at which input.
  Laid BY PROGRAM, IN A SANDBOX (cutbox-rows.mjs): the forced cells as the released guide's own fill.sh prints them over the translation ed89a225ce4865c8… (all of the seat's roots in one cut). By AI agents, Wed Nov 11 2026. No macro, syntax, notation, axiom, sorry.
-/
import Derived.Test.YtpikmcapnmdmbaaChecked
import GoSem.Claim
import GoSem.ClaimJoined
import GoSem.ClaimMapViews
import Derived.JoinedTies
import Derived.KernelRfl
namespace Go.Proofs.Ytpikmcapnmdmbaa
/- THE CELL 'sum', in the pinned program and in every row, IS THE sha256 OF THE DUMP (.gsa) THAT YtpikmcapnmdmbaaProg.lean LOADS. Nothing in Lean hashes anything: it is a label: what it is worth is what the hold of that sum in a sandbox is worth. -/
noncomputable def Try.pinned : Pinned := { name := "ytpikmcapnmdmbaa", sum := "ed89a225ce4865c8b7ffeb090433a6682e052d35c34eadf38ca35932e2c007fc", checked := Try.checked }
namespace Rows
def none {H : Type} : Left H := { results := [], args := [] }

/-- 'bazaarlaw22.BarterCore': WHATEVER THE INPUT: true; the input reads as it did. -/
def barterCoreSpec : ChangeSpec := { name := "barterCore", fn := fun _ => fun
  | [d] => { results := [.lit (.bool true)], args := [d] }
  | _ => none }
def barterCoreRow : OpenClaim := { program := "ytpikmcapnmdmbaa", sum := "ed89a225ce4865c8b7ffeb090433a6682e052d35c34eadf38ca35932e2c007fc", func := "bazaar/bazaarlaw22.BarterCore", spec := "barterCore", apart := false }
def BarterCoreSaid : Prop := barterCoreRow.holds Try.pinned (OpenSpec.ofChange barterCoreSpec)

/-- ITS FALSE NEIGHBOUR: 'it returns false'. Refute it at one input. -/
def barterCoreWrong : ChangeSpec := { name := "barterCore", fn := fun _ => fun
  | [d] => { results := [.lit (.bool false)], args := [d] }
  | _ => none }
def BarterCoreWrongFalsely : Prop := barterCoreRow.holds Try.pinned (OpenSpec.ofChange barterCoreWrong)

/-- 'bazaarlaw22.BarterOrder': WHATEVER THE INPUT: true; the input reads as it did. -/
def barterOrderSpec : ChangeSpec := { name := "barterOrder", fn := fun _ => fun
  | [d1, d2, d3] => { results := [.lit (.bool true)], args := [d1, d2, d3] }
  | _ => none }
def barterOrderRow : OpenClaim := { program := "ytpikmcapnmdmbaa", sum := "ed89a225ce4865c8b7ffeb090433a6682e052d35c34eadf38ca35932e2c007fc", func := "bazaar/bazaarlaw22.BarterOrder", spec := "barterOrder", apart := false }
def BarterOrderSaid : Prop := barterOrderRow.holds Try.pinned (OpenSpec.ofChange barterOrderSpec)

/-- ITS FALSE NEIGHBOUR: 'it returns false'. Refute it at one input. -/
def barterOrderWrong : ChangeSpec := { name := "barterOrder", fn := fun _ => fun
  | [d1, d2, d3] => { results := [.lit (.bool false)], args := [d1, d2, d3] }
  | _ => none }
def BarterOrderWrongFalsely : Prop := barterOrderRow.holds Try.pinned (OpenSpec.ofChange barterOrderWrong)

/-- 'bazaarlaw22.BarterClears': WHATEVER THE INPUT: true; the input reads as it did. -/
def barterClearsSpec : ChangeSpec := { name := "barterClears", fn := fun _ => fun
  | [d1, d2, d3, d4, d5] => { results := [.lit (.bool true)], args := [d1, d2, d3, d4, d5] }
  | _ => none }
def barterClearsRow : OpenClaim := { program := "ytpikmcapnmdmbaa", sum := "ed89a225ce4865c8b7ffeb090433a6682e052d35c34eadf38ca35932e2c007fc", func := "bazaar/bazaarlaw22.BarterClears", spec := "barterClears", apart := false }
def BarterClearsSaid : Prop := barterClearsRow.holds Try.pinned (OpenSpec.ofChange barterClearsSpec)

/-- ITS FALSE NEIGHBOUR: 'it returns false'. Refute it at one input. -/
def barterClearsWrong : ChangeSpec := { name := "barterClears", fn := fun _ => fun
  | [d1, d2, d3, d4, d5] => { results := [.lit (.bool false)], args := [d1, d2, d3, d4, d5] }
  | _ => none }
def BarterClearsWrongFalsely : Prop := barterClearsRow.holds Try.pinned (OpenSpec.ofChange barterClearsWrong)

/-- 'bazaarlaw22.BarterTrue': WHATEVER THE INPUT: true; the input reads as it did. -/
def barterTrueSpec : ChangeSpec := { name := "barterTrue", fn := fun _ => fun
  | [d1, d2, d3, d4] => { results := [.lit (.bool true)], args := [d1, d2, d3, d4] }
  | _ => none }
def barterTrueRow : OpenClaim := { program := "ytpikmcapnmdmbaa", sum := "ed89a225ce4865c8b7ffeb090433a6682e052d35c34eadf38ca35932e2c007fc", func := "bazaar/bazaarlaw22.BarterTrue", spec := "barterTrue", apart := false }
def BarterTrueSaid : Prop := barterTrueRow.holds Try.pinned (OpenSpec.ofChange barterTrueSpec)

/-- ITS FALSE NEIGHBOUR: 'it returns false'. Refute it at one input. -/
def barterTrueWrong : ChangeSpec := { name := "barterTrue", fn := fun _ => fun
  | [d1, d2, d3, d4] => { results := [.lit (.bool false)], args := [d1, d2, d3, d4] }
  | _ => none }
def BarterTrueWrongFalsely : Prop := barterTrueRow.holds Try.pinned (OpenSpec.ofChange barterTrueWrong)

/-- 'bazaarlaw22.BarterAll': WHATEVER THE INPUT: true; the input reads as it did. -/
def barterAllSpec : ChangeSpec := { name := "barterAll", fn := fun _ => fun
  | [d] => { results := [.lit (.bool true)], args := [d] }
  | _ => none }
def barterAllRow : OpenClaim := { program := "ytpikmcapnmdmbaa", sum := "ed89a225ce4865c8b7ffeb090433a6682e052d35c34eadf38ca35932e2c007fc", func := "bazaar/bazaarlaw22.BarterAll", spec := "barterAll", apart := false }
def BarterAllSaid : Prop := barterAllRow.holds Try.pinned (OpenSpec.ofChange barterAllSpec)

/-- ITS FALSE NEIGHBOUR: 'it returns false'. Refute it at one input. -/
def barterAllWrong : ChangeSpec := { name := "barterAll", fn := fun _ => fun
  | [d] => { results := [.lit (.bool false)], args := [d] }
  | _ => none }
def BarterAllWrongFalsely : Prop := barterAllRow.holds Try.pinned (OpenSpec.ofChange barterAllWrong)

/-- 'bazaarlaw22.BarterOwn': WHATEVER THE INPUT: true; the input reads as it did. -/
def barterOwnSpec : ChangeSpec := { name := "barterOwn", fn := fun _ => fun
  | [d1, d2, d3, d4, d5] => { results := [.lit (.bool true)], args := [d1, d2, d3, d4, d5] }
  | _ => none }
def barterOwnRow : OpenClaim := { program := "ytpikmcapnmdmbaa", sum := "ed89a225ce4865c8b7ffeb090433a6682e052d35c34eadf38ca35932e2c007fc", func := "bazaar/bazaarlaw22.BarterOwn", spec := "barterOwn", unfollowed := true, recurses := true, apart := false }
def BarterOwnSaid : Prop := barterOwnRow.holds Try.pinned (OpenSpec.ofChange barterOwnSpec)

/-- ITS FALSE NEIGHBOUR: 'it returns false'. Refute it at one input. -/
def barterOwnWrong : ChangeSpec := { name := "barterOwn", fn := fun _ => fun
  | [d1, d2, d3, d4, d5] => { results := [.lit (.bool false)], args := [d1, d2, d3, d4, d5] }
  | _ => none }
def BarterOwnWrongFalsely : Prop := barterOwnRow.holds Try.pinned (OpenSpec.ofChange barterOwnWrong)

/-- 'bazaarlaw22.BarterContracts': WHATEVER THE INPUT: true; the input reads as it did. -/
def barterContractsSpec : ChangeSpec := { name := "barterContracts", fn := fun _ => fun
  | [d1, d2] => { results := [.lit (.bool true)], args := [d1, d2] }
  | _ => none }
def barterContractsRow : OpenClaim := { program := "ytpikmcapnmdmbaa", sum := "ed89a225ce4865c8b7ffeb090433a6682e052d35c34eadf38ca35932e2c007fc", func := "bazaar/bazaarlaw22.BarterContracts", spec := "barterContracts", unfollowed := true, recurses := true, apart := false }
def BarterContractsSaid : Prop := barterContractsRow.holds Try.pinned (OpenSpec.ofChange barterContractsSpec)

/-- ITS FALSE NEIGHBOUR: 'it returns false'. Refute it at one input. -/
def barterContractsWrong : ChangeSpec := { name := "barterContracts", fn := fun _ => fun
  | [d1, d2] => { results := [.lit (.bool false)], args := [d1, d2] }
  | _ => none }
def BarterContractsWrongFalsely : Prop := barterContractsRow.holds Try.pinned (OpenSpec.ofChange barterContractsWrong)

/- THE SECOND FORM. 'bulk': how many values and letters a reading holds, each counted each time it is reached (what is shared counts as often as it is met; a slice's spare places count too). A statement '..UptoSaid' is the law's where the arguments, and the package variables that the reading takes, are together of bulk at most 1048576: NARROWER than '..Said'. Prove '..Said' where nothing that the law and all that it calls make is longer than what came in: it says more and counts as full. Else prove '..UptoSaid'. A law counts once. -/
mutual
def uptoBulk {H : Type} : DataW H → Nat
  | .lit (.string bytes) => bytes.length + 1
  | .lit _ => 1
  | .nil => 1
  | .ptr d => uptoBulk d + 1
  | .slice elems spare => uptoBulkAll elems + uptoBulkAll spare + 1
  | .agg parts => uptoBulkAll parts + 1
  | .iface _ d => uptoBulk d + 1
  | .map entries => uptoBulkEntries entries + 1
  | .held _ => 1
def uptoBulkAll {H : Type} : List (DataW H) → Nat
  | [] => 0
  | d :: r => uptoBulk d + uptoBulkAll r
def uptoBulkEntries {H : Type} : List (Lit × DataW H) → Nat
  | [] => 0
  | x :: r => uptoBulkEntry x + uptoBulkEntries r
def uptoBulkEntry {H : Type} : Lit × DataW H → Nat
  | (.string bytes, d) => bytes.length + uptoBulk d + 1
  | (_, d) => uptoBulk d + 1
 end
def uptoSmall : (H : Type) → List (DataW H) → Bool := fun _ ds => decide (uptoBulkAll ds ≤ 1048576)
def OpenSpec.upto (s : _root_.Go.ChangeSpec) : _root_.Go.OpenSpec := { _root_.Go.OpenSpec.ofChange s with cond := some uptoSmall }

/-- 'bazaarlaw22.BarterCore', WHERE WHAT IT READS IS OF BULK AT MOST 1048576: true; the input reads as it did. -/
def barterCoreUptoRow : OpenClaim := { program := "ytpikmcapnmdmbaa", sum := "ed89a225ce4865c8b7ffeb090433a6682e052d35c34eadf38ca35932e2c007fc", func := "bazaar/bazaarlaw22.BarterCore", spec := "barterCore", apart := false, narrowed := true }
def BarterCoreUptoSaid : Prop := barterCoreUptoRow.holds Try.pinned (OpenSpec.upto barterCoreSpec)

/-- 'bazaarlaw22.BarterOrder', WHERE WHAT IT READS IS OF BULK AT MOST 1048576: true; the input reads as it did. -/
def barterOrderUptoRow : OpenClaim := { program := "ytpikmcapnmdmbaa", sum := "ed89a225ce4865c8b7ffeb090433a6682e052d35c34eadf38ca35932e2c007fc", func := "bazaar/bazaarlaw22.BarterOrder", spec := "barterOrder", apart := false, narrowed := true }
def BarterOrderUptoSaid : Prop := barterOrderUptoRow.holds Try.pinned (OpenSpec.upto barterOrderSpec)

/-- 'bazaarlaw22.BarterClears', WHERE WHAT IT READS IS OF BULK AT MOST 1048576: true; the input reads as it did. -/
def barterClearsUptoRow : OpenClaim := { program := "ytpikmcapnmdmbaa", sum := "ed89a225ce4865c8b7ffeb090433a6682e052d35c34eadf38ca35932e2c007fc", func := "bazaar/bazaarlaw22.BarterClears", spec := "barterClears", apart := false, narrowed := true }
def BarterClearsUptoSaid : Prop := barterClearsUptoRow.holds Try.pinned (OpenSpec.upto barterClearsSpec)

/-- 'bazaarlaw22.BarterTrue', WHERE WHAT IT READS IS OF BULK AT MOST 1048576: true; the input reads as it did. -/
def barterTrueUptoRow : OpenClaim := { program := "ytpikmcapnmdmbaa", sum := "ed89a225ce4865c8b7ffeb090433a6682e052d35c34eadf38ca35932e2c007fc", func := "bazaar/bazaarlaw22.BarterTrue", spec := "barterTrue", apart := false, narrowed := true }
def BarterTrueUptoSaid : Prop := barterTrueUptoRow.holds Try.pinned (OpenSpec.upto barterTrueSpec)

/-- 'bazaarlaw22.BarterAll', WHERE WHAT IT READS IS OF BULK AT MOST 1048576: true; the input reads as it did. -/
def barterAllUptoRow : OpenClaim := { program := "ytpikmcapnmdmbaa", sum := "ed89a225ce4865c8b7ffeb090433a6682e052d35c34eadf38ca35932e2c007fc", func := "bazaar/bazaarlaw22.BarterAll", spec := "barterAll", apart := false, narrowed := true }
def BarterAllUptoSaid : Prop := barterAllUptoRow.holds Try.pinned (OpenSpec.upto barterAllSpec)

/-- 'bazaarlaw22.BarterOwn', WHERE WHAT IT READS IS OF BULK AT MOST 1048576: true; the input reads as it did. -/
def barterOwnUptoRow : OpenClaim := { program := "ytpikmcapnmdmbaa", sum := "ed89a225ce4865c8b7ffeb090433a6682e052d35c34eadf38ca35932e2c007fc", func := "bazaar/bazaarlaw22.BarterOwn", spec := "barterOwn", unfollowed := true, recurses := true, apart := false, narrowed := true }
def BarterOwnUptoSaid : Prop := barterOwnUptoRow.holds Try.pinned (OpenSpec.upto barterOwnSpec)

/-- 'bazaarlaw22.BarterContracts', WHERE WHAT IT READS IS OF BULK AT MOST 1048576: true; the input reads as it did. -/
def barterContractsUptoRow : OpenClaim := { program := "ytpikmcapnmdmbaa", sum := "ed89a225ce4865c8b7ffeb090433a6682e052d35c34eadf38ca35932e2c007fc", func := "bazaar/bazaarlaw22.BarterContracts", spec := "barterContracts", unfollowed := true, recurses := true, apart := false, narrowed := true }
def BarterContractsUptoSaid : Prop := barterContractsUptoRow.holds Try.pinned (OpenSpec.upto barterContractsSpec)

end Rows
end Go.Proofs.Ytpikmcapnmdmbaa
