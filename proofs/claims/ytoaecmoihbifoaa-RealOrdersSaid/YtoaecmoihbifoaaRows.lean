/-
  No cell of these rows narrows 'for every input' (looked for: loops, veiled, ifaces, maps, wideKeys, modest, calm, conditions, laid).
  DERIVED. THE GIVEN ROWS OF THIS SEAT. 5 by the template 'for every input the law returns true; each argument reads behind the call as it read before'; 0 by the template 'total and deterministic' (their statements: YtoaecmoihbifoaaTotals.lean).
  GIVEN WITH THE SEED: the statements are not yours to turn. If you find one false, say at which input.
  Laid BY PROGRAM, IN A SANDBOX (cutbox-rows.mjs): the forced cells as the released guide's own fill.sh prints them over the translation 2ebbafa490c0c070… (all of the seat's roots in one cut). By AI agents, Wed Nov 11 2026. No macro, syntax, notation, axiom, sorry.
-/
import Derived.Test.YtoaecmoihbifoaaChecked
import GoSem.Claim
import GoSem.ClaimJoined
import GoSem.ClaimMapViews
import Derived.JoinedTies
import Derived.KernelRfl
namespace Go.Proofs.Ytoaecmoihbifoaa
/- THE CELL 'sum', in the pinned program and in every row, IS THE sha256 OF THE DUMP (.gsa) THAT YtoaecmoihbifoaaProg.lean LOADS. Nothing in Lean hashes anything: it is a label: what it is worth is what the hold of that sum in a sandbox is worth. -/
noncomputable def Try.pinned : Pinned := { name := "ytoaecmoihbifoaa", sum := "2ebbafa490c0c070f2624648d13a09e0c741d86af972f428c0e90358078ee9cc", checked := Try.checked }
namespace Rows
def none {H : Type} : Left H := { results := [], args := [] }

/-- 'bazaarlaw03.RealBits': WHATEVER THE INPUT: true; the input reads as it did. -/
def realBitsSpec : ChangeSpec := { name := "realBits", fn := fun _ => fun
  | [d] => { results := [.lit (.bool true)], args := [d] }
  | _ => none }
def realBitsRow : OpenClaim := { program := "ytoaecmoihbifoaa", sum := "2ebbafa490c0c070f2624648d13a09e0c741d86af972f428c0e90358078ee9cc", func := "bazaar/bazaarlaw03.RealBits", spec := "realBits", inPlace := ["math.Float32frombits", "math.Float32bits"], apart := false }
def RealBitsSaid : Prop := realBitsRow.holds Try.pinned (OpenSpec.ofChange realBitsSpec)

/-- ITS FALSE NEIGHBOUR: 'it returns false'. Refute it at one input. -/
def realBitsWrong : ChangeSpec := { name := "realBits", fn := fun _ => fun
  | [d] => { results := [.lit (.bool false)], args := [d] }
  | _ => none }
def RealBitsWrongFalsely : Prop := realBitsRow.holds Try.pinned (OpenSpec.ofChange realBitsWrong)

/-- 'bazaarlaw03.RealOps': WHATEVER THE INPUT: true; the input reads as it did. -/
def realOpsSpec : ChangeSpec := { name := "realOps", fn := fun _ => fun
  | [d1, d2] => { results := [.lit (.bool true)], args := [d1, d2] }
  | _ => none }
def realOpsRow : OpenClaim := { program := "ytoaecmoihbifoaa", sum := "2ebbafa490c0c070f2624648d13a09e0c741d86af972f428c0e90358078ee9cc", func := "bazaar/bazaarlaw03.RealOps", spec := "realOps", inPlace := ["math.Float32frombits", "math.Float32bits", "math.sqrt"], apart := false }
def RealOpsSaid : Prop := realOpsRow.holds Try.pinned (OpenSpec.ofChange realOpsSpec)

/-- ITS FALSE NEIGHBOUR: 'it returns false'. Refute it at one input. -/
def realOpsWrong : ChangeSpec := { name := "realOps", fn := fun _ => fun
  | [d1, d2] => { results := [.lit (.bool false)], args := [d1, d2] }
  | _ => none }
def RealOpsWrongFalsely : Prop := realOpsRow.holds Try.pinned (OpenSpec.ofChange realOpsWrong)

/-- 'bazaarlaw03.RealWholes': WHATEVER THE INPUT: true; the input reads as it did. -/
def realWholesSpec : ChangeSpec := { name := "realWholes", fn := fun _ => fun
  | [d1, d2, d3, d4] => { results := [.lit (.bool true)], args := [d1, d2, d3, d4] }
  | _ => none }
def realWholesRow : OpenClaim := { program := "ytoaecmoihbifoaa", sum := "2ebbafa490c0c070f2624648d13a09e0c741d86af972f428c0e90358078ee9cc", func := "bazaar/bazaarlaw03.RealWholes", spec := "realWholes", inPlace := ["math.Float32frombits", "math.archTrunc", "math.Float64bits", "math.Float64frombits", "math.archFloor", "math.archCeil", "math.RoundToEven", "math.Float32bits"], unfollowed := true, recurses := true, apart := false }
def RealWholesSaid : Prop := realWholesRow.holds Try.pinned (OpenSpec.ofChange realWholesSpec)

/-- ITS FALSE NEIGHBOUR: 'it returns false'. Refute it at one input. -/
def realWholesWrong : ChangeSpec := { name := "realWholes", fn := fun _ => fun
  | [d1, d2, d3, d4] => { results := [.lit (.bool false)], args := [d1, d2, d3, d4] }
  | _ => none }
def RealWholesWrongFalsely : Prop := realWholesRow.holds Try.pinned (OpenSpec.ofChange realWholesWrong)

/-- 'bazaarlaw03.RealTotals': WHATEVER THE INPUT: true; the input reads as it did. -/
def realTotalsSpec : ChangeSpec := { name := "realTotals", fn := fun _ => fun
  | [d] => { results := [.lit (.bool true)], args := [d] }
  | _ => none }
def realTotalsRow : OpenClaim := { program := "ytoaecmoihbifoaa", sum := "2ebbafa490c0c070f2624648d13a09e0c741d86af972f428c0e90358078ee9cc", func := "bazaar/bazaarlaw03.RealTotals", spec := "realTotals", inPlace := ["math.Float32frombits", "math.Float32bits", "math.Float64bits", "math.Float64frombits"], apart := false }
def RealTotalsSaid : Prop := realTotalsRow.holds Try.pinned (OpenSpec.ofChange realTotalsSpec)

/-- ITS FALSE NEIGHBOUR: 'it returns false'. Refute it at one input. -/
def realTotalsWrong : ChangeSpec := { name := "realTotals", fn := fun _ => fun
  | [d] => { results := [.lit (.bool false)], args := [d] }
  | _ => none }
def RealTotalsWrongFalsely : Prop := realTotalsRow.holds Try.pinned (OpenSpec.ofChange realTotalsWrong)

/-- 'bazaarlaw03.RealOrders': WHATEVER THE INPUT: true; the input reads as it did. -/
def realOrdersSpec : ChangeSpec := { name := "realOrders", fn := fun _ => fun
  | [d1, d2] => { results := [.lit (.bool true)], args := [d1, d2] }
  | _ => none }
def realOrdersRow : OpenClaim := { program := "ytoaecmoihbifoaa", sum := "2ebbafa490c0c070f2624648d13a09e0c741d86af972f428c0e90358078ee9cc", func := "bazaar/bazaarlaw03.RealOrders", spec := "realOrders", inPlace := ["math.Float32frombits", "math.Float32bits", "math.Float64bits", "math.Float64frombits"], apart := false }
def RealOrdersSaid : Prop := realOrdersRow.holds Try.pinned (OpenSpec.ofChange realOrdersSpec)

/-- ITS FALSE NEIGHBOUR: 'it returns false'. Refute it at one input. -/
def realOrdersWrong : ChangeSpec := { name := "realOrders", fn := fun _ => fun
  | [d1, d2] => { results := [.lit (.bool false)], args := [d1, d2] }
  | _ => none }
def RealOrdersWrongFalsely : Prop := realOrdersRow.holds Try.pinned (OpenSpec.ofChange realOrdersWrong)

/- THE SECOND FORM. 'bulk': how many values and letters a reading holds, each counted each time it is reached (what is shared counts as often as it is met; a slice's spare places count too). A statement '..UptoSaid' is the law's where the arguments, and the package variables that the reading takes, are together of bulk at most 1048576: NARROWER than '..Said'. Prove '..Said' where nothing that the law and all that it calls make is longer than what came in: it says more and counts as full. Else prove '..UptoSaid'. A law counts once. -/
mutual
def uptoBulk {H : Type} : DataW H → Nat
  | .lit (.string bytes) => bytes.length + 1
  | .lit _ => 1
  | .nil => 1
  | .ptr d => uptoBulk d + 1
  | .slice elems spare => uptoBulkAll elems + uptoBulkAll spare + 1
  | .agg parts => uptoBulkAll parts + 1
  | .iface _ d => uptoBulk d + 1
  | .map entries => uptoBulkEntries entries + 1
  | .held _ => 1
def uptoBulkAll {H : Type} : List (DataW H) → Nat
  | [] => 0
  | d :: r => uptoBulk d + uptoBulkAll r
def uptoBulkEntries {H : Type} : List (Lit × DataW H) → Nat
  | [] => 0
  | x :: r => uptoBulkEntry x + uptoBulkEntries r
def uptoBulkEntry {H : Type} : Lit × DataW H → Nat
  | (.string bytes, d) => bytes.length + uptoBulk d + 1
  | (_, d) => uptoBulk d + 1
 end
def uptoSmall : (H : Type) → List (DataW H) → Bool := fun _ ds => decide (uptoBulkAll ds ≤ 1048576)
def OpenSpec.upto (s : _root_.Go.ChangeSpec) : _root_.Go.OpenSpec := { _root_.Go.OpenSpec.ofChange s with cond := some uptoSmall }

/-- 'bazaarlaw03.RealBits', WHERE WHAT IT READS IS OF BULK AT MOST 1048576: true; the input reads as it did. -/
def realBitsUptoRow : OpenClaim := { program := "ytoaecmoihbifoaa", sum := "2ebbafa490c0c070f2624648d13a09e0c741d86af972f428c0e90358078ee9cc", func := "bazaar/bazaarlaw03.RealBits", spec := "realBits", inPlace := ["math.Float32frombits", "math.Float32bits"], apart := false, narrowed := true }
def RealBitsUptoSaid : Prop := realBitsUptoRow.holds Try.pinned (OpenSpec.upto realBitsSpec)

/-- 'bazaarlaw03.RealOps', WHERE WHAT IT READS IS OF BULK AT MOST 1048576: true; the input reads as it did. -/
def realOpsUptoRow : OpenClaim := { program := "ytoaecmoihbifoaa", sum := "2ebbafa490c0c070f2624648d13a09e0c741d86af972f428c0e90358078ee9cc", func := "bazaar/bazaarlaw03.RealOps", spec := "realOps", inPlace := ["math.Float32frombits", "math.Float32bits", "math.sqrt"], apart := false, narrowed := true }
def RealOpsUptoSaid : Prop := realOpsUptoRow.holds Try.pinned (OpenSpec.upto realOpsSpec)

/-- 'bazaarlaw03.RealWholes', WHERE WHAT IT READS IS OF BULK AT MOST 1048576: true; the input reads as it did. -/
def realWholesUptoRow : OpenClaim := { program := "ytoaecmoihbifoaa", sum := "2ebbafa490c0c070f2624648d13a09e0c741d86af972f428c0e90358078ee9cc", func := "bazaar/bazaarlaw03.RealWholes", spec := "realWholes", inPlace := ["math.Float32frombits", "math.archTrunc", "math.Float64bits", "math.Float64frombits", "math.archFloor", "math.archCeil", "math.RoundToEven", "math.Float32bits"], unfollowed := true, recurses := true, apart := false, narrowed := true }
def RealWholesUptoSaid : Prop := realWholesUptoRow.holds Try.pinned (OpenSpec.upto realWholesSpec)

/-- 'bazaarlaw03.RealTotals', WHERE WHAT IT READS IS OF BULK AT MOST 1048576: true; the input reads as it did. -/
def realTotalsUptoRow : OpenClaim := { program := "ytoaecmoihbifoaa", sum := "2ebbafa490c0c070f2624648d13a09e0c741d86af972f428c0e90358078ee9cc", func := "bazaar/bazaarlaw03.RealTotals", spec := "realTotals", inPlace := ["math.Float32frombits", "math.Float32bits", "math.Float64bits", "math.Float64frombits"], apart := false, narrowed := true }
def RealTotalsUptoSaid : Prop := realTotalsUptoRow.holds Try.pinned (OpenSpec.upto realTotalsSpec)

/-- 'bazaarlaw03.RealOrders', WHERE WHAT IT READS IS OF BULK AT MOST 1048576: true; the input reads as it did. -/
def realOrdersUptoRow : OpenClaim := { program := "ytoaecmoihbifoaa", sum := "2ebbafa490c0c070f2624648d13a09e0c741d86af972f428c0e90358078ee9cc", func := "bazaar/bazaarlaw03.RealOrders", spec := "realOrders", inPlace := ["math.Float32frombits", "math.Float32bits", "math.Float64bits", "math.Float64frombits"], apart := false, narrowed := true }
def RealOrdersUptoSaid : Prop := realOrdersUptoRow.holds Try.pinned (OpenSpec.upto realOrdersSpec)

end Rows
end Go.Proofs.Ytoaecmoihbifoaa
