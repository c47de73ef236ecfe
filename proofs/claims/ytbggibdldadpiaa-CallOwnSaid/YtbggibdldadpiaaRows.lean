/-
  No cell of these rows narrows 'for every input' (looked for: loops, veiled, ifaces, maps, wideKeys, modest, calm, conditions, laid).
  DERIVED. THE GIVEN ROWS OF THIS SEAT. 4 by the template 'for every input the law returns true; each argument reads behind the call as it read before'; 0 by the template 'total and deterministic' (their statements: YtbggibdldadpiaaTotals.lean).
  GIVEN WITH THE SEED: the statements are not yours to turn. If you find one false, say at which input.
  Laid BY PROGRAM, IN A SANDBOX (cutbox-rows.mjs): the forced cells as the released guide's own fill.sh prints them over the translation 73bbd1fb08c770f8… (all of the seat's roots in one cut). By AI agents, Wed Nov 11 2026. No macro, syntax, notation, axiom, sorry.
-/
import Derived.Test.YtbggibdldadpiaaChecked
import GoSem.Claim
import GoSem.ClaimJoined
import GoSem.ClaimMapViews
import Derived.JoinedTies
import Derived.KernelRfl
namespace Go.Proofs.Ytbggibdldadpiaa
/- THE CELL 'sum', in the pinned program and in every row, IS THE sha256 OF THE DUMP (.gsa) THAT YtbggibdldadpiaaProg.lean LOADS. Nothing in Lean hashes anything: it is a label: what it is worth is what the hold of that sum in a sandbox is worth. -/
noncomputable def Try.pinned : Pinned := { name := "ytbggibdldadpiaa", sum := "73bbd1fb08c770f8dbcf2e4c3f692f568a2840fcb3a8a9aab00671d1225f12ef", checked := Try.checked }
namespace Rows
def none {H : Type} : Left H := { results := [], args := [] }

/-- 'bazaarlaw19.CallBest': WHATEVER THE INPUT: true; the input reads as it did. -/
def callBestSpec : ChangeSpec := { name := "callBest", fn := fun _ => fun
  | [d1, d2, d3, d4, d5] => { results := [.lit (.bool true)], args := [d1, d2, d3, d4, d5] }
  | _ => none }
def callBestRow : OpenClaim := { program := "ytbggibdldadpiaa", sum := "73bbd1fb08c770f8dbcf2e4c3f692f568a2840fcb3a8a9aab00671d1225f12ef", func := "bazaar/bazaarlaw19.CallBest", spec := "callBest", unfollowed := true, recurses := true, apart := false }
def CallBestSaid : Prop := callBestRow.holds Try.pinned (OpenSpec.ofChange callBestSpec)

/-- ITS FALSE NEIGHBOUR: 'it returns false'. Refute it at one input. -/
def callBestWrong : ChangeSpec := { name := "callBest", fn := fun _ => fun
  | [d1, d2, d3, d4, d5] => { results := [.lit (.bool false)], args := [d1, d2, d3, d4, d5] }
  | _ => none }
def CallBestWrongFalsely : Prop := callBestRow.holds Try.pinned (OpenSpec.ofChange callBestWrong)

/-- 'bazaarlaw19.CallTrue': WHATEVER THE INPUT: true; the input reads as it did. -/
def callTrueSpec : ChangeSpec := { name := "callTrue", fn := fun _ => fun
  | [d1, d2, d3, d4, d5] => { results := [.lit (.bool true)], args := [d1, d2, d3, d4, d5] }
  | _ => none }
def callTrueRow : OpenClaim := { program := "ytbggibdldadpiaa", sum := "73bbd1fb08c770f8dbcf2e4c3f692f568a2840fcb3a8a9aab00671d1225f12ef", func := "bazaar/bazaarlaw19.CallTrue", spec := "callTrue", unfollowed := true, recurses := true, apart := false }
def CallTrueSaid : Prop := callTrueRow.holds Try.pinned (OpenSpec.ofChange callTrueSpec)

/-- ITS FALSE NEIGHBOUR: 'it returns false'. Refute it at one input. -/
def callTrueWrong : ChangeSpec := { name := "callTrue", fn := fun _ => fun
  | [d1, d2, d3, d4, d5] => { results := [.lit (.bool false)], args := [d1, d2, d3, d4, d5] }
  | _ => none }
def CallTrueWrongFalsely : Prop := callTrueRow.holds Try.pinned (OpenSpec.ofChange callTrueWrong)

/-- 'bazaarlaw19.CallClears': WHATEVER THE INPUT: true; the input reads as it did. -/
def callClearsSpec : ChangeSpec := { name := "callClears", fn := fun _ => fun
  | [d1, d2, d3, d4] => { results := [.lit (.bool true)], args := [d1, d2, d3, d4] }
  | _ => none }
def callClearsRow : OpenClaim := { program := "ytbggibdldadpiaa", sum := "73bbd1fb08c770f8dbcf2e4c3f692f568a2840fcb3a8a9aab00671d1225f12ef", func := "bazaar/bazaarlaw19.CallClears", spec := "callClears", inPlace := ["math/bits.Add64"], unfollowed := true, recurses := true, apart := false }
def CallClearsSaid : Prop := callClearsRow.holds Try.pinned (OpenSpec.ofChange callClearsSpec)

/-- ITS FALSE NEIGHBOUR: 'it returns false'. Refute it at one input. -/
def callClearsWrong : ChangeSpec := { name := "callClears", fn := fun _ => fun
  | [d1, d2, d3, d4] => { results := [.lit (.bool false)], args := [d1, d2, d3, d4] }
  | _ => none }
def CallClearsWrongFalsely : Prop := callClearsRow.holds Try.pinned (OpenSpec.ofChange callClearsWrong)

/-- 'bazaarlaw19.CallOwn': WHATEVER THE INPUT: true; the input reads as it did. -/
def callOwnSpec : ChangeSpec := { name := "callOwn", fn := fun _ => fun
  | [d1, d2, d3, d4, d5] => { results := [.lit (.bool true)], args := [d1, d2, d3, d4, d5] }
  | _ => none }
def callOwnRow : OpenClaim := { program := "ytbggibdldadpiaa", sum := "73bbd1fb08c770f8dbcf2e4c3f692f568a2840fcb3a8a9aab00671d1225f12ef", func := "bazaar/bazaarlaw19.CallOwn", spec := "callOwn", unfollowed := true, recurses := true, apart := false }
def CallOwnSaid : Prop := callOwnRow.holds Try.pinned (OpenSpec.ofChange callOwnSpec)

/-- ITS FALSE NEIGHBOUR: 'it returns false'. Refute it at one input. -/
def callOwnWrong : ChangeSpec := { name := "callOwn", fn := fun _ => fun
  | [d1, d2, d3, d4, d5] => { results := [.lit (.bool false)], args := [d1, d2, d3, d4, d5] }
  | _ => none }
def CallOwnWrongFalsely : Prop := callOwnRow.holds Try.pinned (OpenSpec.ofChange callOwnWrong)

/- THE SECOND FORM. 'bulk': how many values and letters a reading holds, each counted each time it is reached (what is shared counts as often as it is met; a slice's spare places count too). A statement '..UptoSaid' is the law's where the arguments, and the package variables that the reading takes, are together of bulk at most 1048576: NARROWER than '..Said'. Prove '..Said' where nothing that the law and all that it calls make is longer than what came in: it says more and counts as full. Else prove '..UptoSaid'. A law counts once. -/
mutual
def uptoBulk {H : Type} : DataW H → Nat
  | .lit (.string bytes) => bytes.length + 1
  | .lit _ => 1
  | .nil => 1
  | .ptr d => uptoBulk d + 1
  | .slice elems spare => uptoBulkAll elems + uptoBulkAll spare + 1
  | .agg parts => uptoBulkAll parts + 1
  | .iface _ d => uptoBulk d + 1
  | .map entries => uptoBulkEntries entries + 1
  | .held _ => 1
def uptoBulkAll {H : Type} : List (DataW H) → Nat
  | [] => 0
  | d :: r => uptoBulk d + uptoBulkAll r
def uptoBulkEntries {H : Type} : List (Lit × DataW H) → Nat
  | [] => 0
  | x :: r => uptoBulkEntry x + uptoBulkEntries r
def uptoBulkEntry {H : Type} : Lit × DataW H → Nat
  | (.string bytes, d) => bytes.length + uptoBulk d + 1
  | (_, d) => uptoBulk d + 1
 end
def uptoSmall : (H : Type) → List (DataW H) → Bool := fun _ ds => decide (uptoBulkAll ds ≤ 1048576)
def OpenSpec.upto (s : _root_.Go.ChangeSpec) : _root_.Go.OpenSpec := { _root_.Go.OpenSpec.ofChange s with cond := some uptoSmall }

/-- 'bazaarlaw19.CallBest', WHERE WHAT IT READS IS OF BULK AT MOST 1048576: true; the input reads as it did. -/
def callBestUptoRow : OpenClaim := { program := "ytbggibdldadpiaa", sum := "73bbd1fb08c770f8dbcf2e4c3f692f568a2840fcb3a8a9aab00671d1225f12ef", func := "bazaar/bazaarlaw19.CallBest", spec := "callBest", unfollowed := true, recurses := true, apart := false, narrowed := true }
def CallBestUptoSaid : Prop := callBestUptoRow.holds Try.pinned (OpenSpec.upto callBestSpec)

/-- 'bazaarlaw19.CallTrue', WHERE WHAT IT READS IS OF BULK AT MOST 1048576: true; the input reads as it did. -/
def callTrueUptoRow : OpenClaim := { program := "ytbggibdldadpiaa", sum := "73bbd1fb08c770f8dbcf2e4c3f692f568a2840fcb3a8a9aab00671d1225f12ef", func := "bazaar/bazaarlaw19.CallTrue", spec := "callTrue", unfollowed := true, recurses := true, apart := false, narrowed := true }
def CallTrueUptoSaid : Prop := callTrueUptoRow.holds Try.pinned (OpenSpec.upto callTrueSpec)

/-- 'bazaarlaw19.CallClears', WHERE WHAT IT READS IS OF BULK AT MOST 1048576: true; the input reads as it did. -/
def callClearsUptoRow : OpenClaim := { program := "ytbggibdldadpiaa", sum := "73bbd1fb08c770f8dbcf2e4c3f692f568a2840fcb3a8a9aab00671d1225f12ef", func := "bazaar/bazaarlaw19.CallClears", spec := "callClears", inPlace := ["math/bits.Add64"], unfollowed := true, recurses := true, apart := false, narrowed := true }
def CallClearsUptoSaid : Prop := callClearsUptoRow.holds Try.pinned (OpenSpec.upto callClearsSpec)

/-- 'bazaarlaw19.CallOwn', WHERE WHAT IT READS IS OF BULK AT MOST 1048576: true; the input reads as it did. -/
def callOwnUptoRow : OpenClaim := { program := "ytbggibdldadpiaa", sum := "73bbd1fb08c770f8dbcf2e4c3f692f568a2840fcb3a8a9aab00671d1225f12ef", func := "bazaar/bazaarlaw19.CallOwn", spec := "callOwn", unfollowed := true, recurses := true, apart := false, narrowed := true }
def CallOwnUptoSaid : Prop := callOwnUptoRow.holds Try.pinned (OpenSpec.upto callOwnSpec)

end Rows
end Go.Proofs.Ytbggibdldadpiaa
