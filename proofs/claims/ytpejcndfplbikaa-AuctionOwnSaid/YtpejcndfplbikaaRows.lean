/-
  No cell of these rows narrows 'for every input' (looked for: loops, veiled, ifaces, maps, wideKeys, modest, calm, conditions, laid).
  DERIVED. THE GIVEN ROWS OF THIS SEAT. 6 by the template 'for every input the law returns true; each argument reads behind the call as it read before'; 0 by the template 'total and deterministic' (their statements: YtpejcndfplbikaaTotals.lean).
  GIVEN WITH THE SEED: the statements are not yours to turn. If you find one false, say at which input.
  Laid BY PROGRAM, IN A SANDBOX (cutbox-rows.mjs): the forced cells as the released guide's own fill.sh prints them over the translation feaf099186bd7615… (all of the seat's roots in one cut). By AI agents, Wed Nov 11 2026. No macro, syntax, notation, axiom, sorry.
-/
import Derived.Test.YtpejcndfplbikaaChecked
import GoSem.Claim
import GoSem.ClaimJoined
import GoSem.ClaimMapViews
import Derived.JoinedTies
import Derived.KernelRfl
namespace Go.Proofs.Ytpejcndfplbikaa
/- THE CELL 'sum', in the pinned program and in every row, IS THE sha256 OF THE DUMP (.gsa) THAT YtpejcndfplbikaaProg.lean LOADS. Nothing in Lean hashes anything: it is a label: what it is worth is what the hold of that sum in a sandbox is worth. -/
noncomputable def Try.pinned : Pinned := { name := "ytpejcndfplbikaa", sum := "feaf099186bd7615582f1d8cc4514342ce2471b62454a45a799441e6287820c9", checked := Try.checked }
namespace Rows
def none {H : Type} : Left H := { results := [], args := [] }

/-- 'bazaarlaw21.AuctionPlays': WHATEVER THE INPUT: true; the input reads as it did. -/
def auctionPlaysSpec : ChangeSpec := { name := "auctionPlays", fn := fun _ => fun
  | [d1, d2] => { results := [.lit (.bool true)], args := [d1, d2] }
  | _ => none }
def auctionPlaysRow : OpenClaim := { program := "ytpejcndfplbikaa", sum := "feaf099186bd7615582f1d8cc4514342ce2471b62454a45a799441e6287820c9", func := "bazaar/bazaarlaw21.AuctionPlays", spec := "auctionPlays", unfollowed := true, recurses := true, apart := false }
def AuctionPlaysSaid : Prop := auctionPlaysRow.holds Try.pinned (OpenSpec.ofChange auctionPlaysSpec)

/-- ITS FALSE NEIGHBOUR: 'it returns false'. Refute it at one input. -/
def auctionPlaysWrong : ChangeSpec := { name := "auctionPlays", fn := fun _ => fun
  | [d1, d2] => { results := [.lit (.bool false)], args := [d1, d2] }
  | _ => none }
def AuctionPlaysWrongFalsely : Prop := auctionPlaysRow.holds Try.pinned (OpenSpec.ofChange auctionPlaysWrong)

/-- 'bazaarlaw21.AuctionRules': WHATEVER THE INPUT: true; the input reads as it did. -/
def auctionRulesSpec : ChangeSpec := { name := "auctionRules", fn := fun _ => fun
  | [d1, d2] => { results := [.lit (.bool true)], args := [d1, d2] }
  | _ => none }
def auctionRulesRow : OpenClaim := { program := "ytpejcndfplbikaa", sum := "feaf099186bd7615582f1d8cc4514342ce2471b62454a45a799441e6287820c9", func := "bazaar/bazaarlaw21.AuctionRules", spec := "auctionRules", unfollowed := true, recurses := true, apart := false }
def AuctionRulesSaid : Prop := auctionRulesRow.holds Try.pinned (OpenSpec.ofChange auctionRulesSpec)

/-- ITS FALSE NEIGHBOUR: 'it returns false'. Refute it at one input. -/
def auctionRulesWrong : ChangeSpec := { name := "auctionRules", fn := fun _ => fun
  | [d1, d2] => { results := [.lit (.bool false)], args := [d1, d2] }
  | _ => none }
def AuctionRulesWrongFalsely : Prop := auctionRulesRow.holds Try.pinned (OpenSpec.ofChange auctionRulesWrong)

/-- 'bazaarlaw21.AuctionAll': WHATEVER THE INPUT: true; the input reads as it did. -/
def auctionAllSpec : ChangeSpec := { name := "auctionAll", fn := fun _ => fun
  | [d1, d2] => { results := [.lit (.bool true)], args := [d1, d2] }
  | _ => none }
def auctionAllRow : OpenClaim := { program := "ytpejcndfplbikaa", sum := "feaf099186bd7615582f1d8cc4514342ce2471b62454a45a799441e6287820c9", func := "bazaar/bazaarlaw21.AuctionAll", spec := "auctionAll", unfollowed := true, recurses := true, apart := false }
def AuctionAllSaid : Prop := auctionAllRow.holds Try.pinned (OpenSpec.ofChange auctionAllSpec)

/-- ITS FALSE NEIGHBOUR: 'it returns false'. Refute it at one input. -/
def auctionAllWrong : ChangeSpec := { name := "auctionAll", fn := fun _ => fun
  | [d1, d2] => { results := [.lit (.bool false)], args := [d1, d2] }
  | _ => none }
def AuctionAllWrongFalsely : Prop := auctionAllRow.holds Try.pinned (OpenSpec.ofChange auctionAllWrong)

/-- 'bazaarlaw21.AuctionHonest': WHATEVER THE INPUT: true; the input reads as it did. -/
def auctionHonestSpec : ChangeSpec := { name := "auctionHonest", fn := fun _ => fun
  | [d1, d2, d3, d4, d5] => { results := [.lit (.bool true)], args := [d1, d2, d3, d4, d5] }
  | _ => none }
def auctionHonestRow : OpenClaim := { program := "ytpejcndfplbikaa", sum := "feaf099186bd7615582f1d8cc4514342ce2471b62454a45a799441e6287820c9", func := "bazaar/bazaarlaw21.AuctionHonest", spec := "auctionHonest", unfollowed := true, recurses := true, apart := false }
def AuctionHonestSaid : Prop := auctionHonestRow.holds Try.pinned (OpenSpec.ofChange auctionHonestSpec)

/-- ITS FALSE NEIGHBOUR: 'it returns false'. Refute it at one input. -/
def auctionHonestWrong : ChangeSpec := { name := "auctionHonest", fn := fun _ => fun
  | [d1, d2, d3, d4, d5] => { results := [.lit (.bool false)], args := [d1, d2, d3, d4, d5] }
  | _ => none }
def AuctionHonestWrongFalsely : Prop := auctionHonestRow.holds Try.pinned (OpenSpec.ofChange auctionHonestWrong)

/-- 'bazaarlaw21.AuctionRises': WHATEVER THE INPUT: true; the input reads as it did. -/
def auctionRisesSpec : ChangeSpec := { name := "auctionRises", fn := fun _ => fun
  | [d1, d2, d3] => { results := [.lit (.bool true)], args := [d1, d2, d3] }
  | _ => none }
def auctionRisesRow : OpenClaim := { program := "ytpejcndfplbikaa", sum := "feaf099186bd7615582f1d8cc4514342ce2471b62454a45a799441e6287820c9", func := "bazaar/bazaarlaw21.AuctionRises", spec := "auctionRises", unfollowed := true, recurses := true, apart := false }
def AuctionRisesSaid : Prop := auctionRisesRow.holds Try.pinned (OpenSpec.ofChange auctionRisesSpec)

/-- ITS FALSE NEIGHBOUR: 'it returns false'. Refute it at one input. -/
def auctionRisesWrong : ChangeSpec := { name := "auctionRises", fn := fun _ => fun
  | [d1, d2, d3] => { results := [.lit (.bool false)], args := [d1, d2, d3] }
  | _ => none }
def AuctionRisesWrongFalsely : Prop := auctionRisesRow.holds Try.pinned (OpenSpec.ofChange auctionRisesWrong)

/-- 'bazaarlaw21.AuctionOwn': WHATEVER THE INPUT: true; the input reads as it did. -/
def auctionOwnSpec : ChangeSpec := { name := "auctionOwn", fn := fun _ => fun
  | [d1, d2] => { results := [.lit (.bool true)], args := [d1, d2] }
  | _ => none }
def auctionOwnRow : OpenClaim := { program := "ytpejcndfplbikaa", sum := "feaf099186bd7615582f1d8cc4514342ce2471b62454a45a799441e6287820c9", func := "bazaar/bazaarlaw21.AuctionOwn", spec := "auctionOwn", unfollowed := true, recurses := true, apart := false }
def AuctionOwnSaid : Prop := auctionOwnRow.holds Try.pinned (OpenSpec.ofChange auctionOwnSpec)

/-- ITS FALSE NEIGHBOUR: 'it returns false'. Refute it at one input. -/
def auctionOwnWrong : ChangeSpec := { name := "auctionOwn", fn := fun _ => fun
  | [d1, d2] => { results := [.lit (.bool false)], args := [d1, d2] }
  | _ => none }
def AuctionOwnWrongFalsely : Prop := auctionOwnRow.holds Try.pinned (OpenSpec.ofChange auctionOwnWrong)

/- THE SECOND FORM. 'bulk': how many values and letters a reading holds, each counted each time it is reached (what is shared counts as often as it is met; a slice's spare places count too). A statement '..UptoSaid' is the law's where the arguments, and the package variables that the reading takes, are together of bulk at most 1048576: NARROWER than '..Said'. Prove '..Said' where nothing that the law and all that it calls make is longer than what came in: it says more and counts as full. Else prove '..UptoSaid'. A law counts once. -/
mutual
def uptoBulk {H : Type} : DataW H → Nat
  | .lit (.string bytes) => bytes.length + 1
  | .lit _ => 1
  | .nil => 1
  | .ptr d => uptoBulk d + 1
  | .slice elems spare => uptoBulkAll elems + uptoBulkAll spare + 1
  | .agg parts => uptoBulkAll parts + 1
  | .iface _ d => uptoBulk d + 1
  | .map entries => uptoBulkEntries entries + 1
  | .held _ => 1
def uptoBulkAll {H : Type} : List (DataW H) → Nat
  | [] => 0
  | d :: r => uptoBulk d + uptoBulkAll r
def uptoBulkEntries {H : Type} : List (Lit × DataW H) → Nat
  | [] => 0
  | x :: r => uptoBulkEntry x + uptoBulkEntries r
def uptoBulkEntry {H : Type} : Lit × DataW H → Nat
  | (.string bytes, d) => bytes.length + uptoBulk d + 1
  | (_, d) => uptoBulk d + 1
 end
def uptoSmall : (H : Type) → List (DataW H) → Bool := fun _ ds => decide (uptoBulkAll ds ≤ 1048576)
def OpenSpec.upto (s : _root_.Go.ChangeSpec) : _root_.Go.OpenSpec := { _root_.Go.OpenSpec.ofChange s with cond := some uptoSmall }

/-- 'bazaarlaw21.AuctionPlays', WHERE WHAT IT READS IS OF BULK AT MOST 1048576: true; the input reads as it did. -/
def auctionPlaysUptoRow : OpenClaim := { program := "ytpejcndfplbikaa", sum := "feaf099186bd7615582f1d8cc4514342ce2471b62454a45a799441e6287820c9", func := "bazaar/bazaarlaw21.AuctionPlays", spec := "auctionPlays", unfollowed := true, recurses := true, apart := false, narrowed := true }
def AuctionPlaysUptoSaid : Prop := auctionPlaysUptoRow.holds Try.pinned (OpenSpec.upto auctionPlaysSpec)

/-- 'bazaarlaw21.AuctionRules', WHERE WHAT IT READS IS OF BULK AT MOST 1048576: true; the input reads as it did. -/
def auctionRulesUptoRow : OpenClaim := { program := "ytpejcndfplbikaa", sum := "feaf099186bd7615582f1d8cc4514342ce2471b62454a45a799441e6287820c9", func := "bazaar/bazaarlaw21.AuctionRules", spec := "auctionRules", unfollowed := true, recurses := true, apart := false, narrowed := true }
def AuctionRulesUptoSaid : Prop := auctionRulesUptoRow.holds Try.pinned (OpenSpec.upto auctionRulesSpec)

/-- 'bazaarlaw21.AuctionAll', WHERE WHAT IT READS IS OF BULK AT MOST 1048576: true; the input reads as it did. -/
def auctionAllUptoRow : OpenClaim := { program := "ytpejcndfplbikaa", sum := "feaf099186bd7615582f1d8cc4514342ce2471b62454a45a799441e6287820c9", func := "bazaar/bazaarlaw21.AuctionAll", spec := "auctionAll", unfollowed := true, recurses := true, apart := false, narrowed := true }
def AuctionAllUptoSaid : Prop := auctionAllUptoRow.holds Try.pinned (OpenSpec.upto auctionAllSpec)

/-- 'bazaarlaw21.AuctionHonest', WHERE WHAT IT READS IS OF BULK AT MOST 1048576: true; the input reads as it did. -/
def auctionHonestUptoRow : OpenClaim := { program := "ytpejcndfplbikaa", sum := "feaf099186bd7615582f1d8cc4514342ce2471b62454a45a799441e6287820c9", func := "bazaar/bazaarlaw21.AuctionHonest", spec := "auctionHonest", unfollowed := true, recurses := true, apart := false, narrowed := true }
def AuctionHonestUptoSaid : Prop := auctionHonestUptoRow.holds Try.pinned (OpenSpec.upto auctionHonestSpec)

/-- 'bazaarlaw21.AuctionRises', WHERE WHAT IT READS IS OF BULK AT MOST 1048576: true; the input reads as it did. -/
def auctionRisesUptoRow : OpenClaim := { program := "ytpejcndfplbikaa", sum := "feaf099186bd7615582f1d8cc4514342ce2471b62454a45a799441e6287820c9", func := "bazaar/bazaarlaw21.AuctionRises", spec := "auctionRises", unfollowed := true, recurses := true, apart := false, narrowed := true }
def AuctionRisesUptoSaid : Prop := auctionRisesUptoRow.holds Try.pinned (OpenSpec.upto auctionRisesSpec)

/-- 'bazaarlaw21.AuctionOwn', WHERE WHAT IT READS IS OF BULK AT MOST 1048576: true; the input reads as it did. -/
def auctionOwnUptoRow : OpenClaim := { program := "ytpejcndfplbikaa", sum := "feaf099186bd7615582f1d8cc4514342ce2471b62454a45a799441e6287820c9", func := "bazaar/bazaarlaw21.AuctionOwn", spec := "auctionOwn", unfollowed := true, recurses := true, apart := false, narrowed := true }
def AuctionOwnUptoSaid : Prop := auctionOwnUptoRow.holds Try.pinned (OpenSpec.upto auctionOwnSpec)

end Rows
end Go.Proofs.Ytpejcndfplbikaa
