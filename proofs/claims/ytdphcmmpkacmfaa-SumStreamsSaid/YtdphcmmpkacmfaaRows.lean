/-
  No cell of these rows narrows 'for every input' (looked for: loops, veiled, ifaces, maps, wideKeys, modest, calm, conditions, laid).
  DERIVED. THE GIVEN ROWS OF THIS SEAT. 8 by the template 'for every input the law returns true; each argument reads behind the call as it read before'; 0 by the template 'total and deterministic' (their statements: YtdphcmmpkacmfaaTotals.lean).
  GIVEN WITH THE SEED: the statements are not yours to turn. If you find one false, say at which input.
  Laid BY PROGRAM, IN A SANDBOX (cutbox-rows.mjs): the forced cells as the released guide's own fill.sh prints them over the translation 9c4c38f352fe8a3e… (all of the seat's roots in one cut). By AI agents, Wed Nov 11 2026. No macro, syntax, notation, axiom, sorry.
-/
import Derived.Test.YtdphcmmpkacmfaaChecked
import GoSem.Claim
import GoSem.ClaimJoined
import GoSem.ClaimMapViews
import Derived.JoinedTies
import Derived.KernelRfl
namespace Go.Proofs.Ytdphcmmpkacmfaa
/- THE CELL 'sum', in the pinned program and in every row, IS THE sha256 OF THE DUMP (.gsa) THAT YtdphcmmpkacmfaaProg.lean LOADS. Nothing in Lean hashes anything: it is a label: what it is worth is what the hold of that sum in a sandbox is worth. -/
noncomputable def Try.pinned : Pinned := { name := "ytdphcmmpkacmfaa", sum := "9c4c38f352fe8a3e765ffa588f1c5f2d1ee6cc3b0edccf6ef35561d590a456e0", checked := Try.checked }
namespace Rows
def none {H : Type} : Left H := { results := [], args := [] }

/-- 'bazaarlaw05.SumLong': WHATEVER THE INPUT: true; the input reads as it did. -/
def sumLongSpec : ChangeSpec := { name := "sumLong", fn := fun _ => fun
  | [d1, d2, d3] => { results := [.lit (.bool true)], args := [d1, d2, d3] }
  | _ => none }
def sumLongRow : OpenClaim := { program := "ytdphcmmpkacmfaa", sum := "9c4c38f352fe8a3e765ffa588f1c5f2d1ee6cc3b0edccf6ef35561d590a456e0", func := "bazaar/bazaarlaw05.SumLong", spec := "sumLong", apart := false }
def SumLongSaid : Prop := sumLongRow.holds Try.pinned (OpenSpec.ofChange sumLongSpec)

/-- ITS FALSE NEIGHBOUR: 'it returns false'. Refute it at one input. -/
def sumLongWrong : ChangeSpec := { name := "sumLong", fn := fun _ => fun
  | [d1, d2, d3] => { results := [.lit (.bool false)], args := [d1, d2, d3] }
  | _ => none }
def SumLongWrongFalsely : Prop := sumLongRow.holds Try.pinned (OpenSpec.ofChange sumLongWrong)

/-- 'bazaarlaw05.SumTells': WHATEVER THE INPUT: true; the input reads as it did. -/
def sumTellsSpec : ChangeSpec := { name := "sumTells", fn := fun _ => fun
  | [d1, d2, d3, d4] => { results := [.lit (.bool true)], args := [d1, d2, d3, d4] }
  | _ => none }
def sumTellsRow : OpenClaim := { program := "ytdphcmmpkacmfaa", sum := "9c4c38f352fe8a3e765ffa588f1c5f2d1ee6cc3b0edccf6ef35561d590a456e0", func := "bazaar/bazaarlaw05.SumTells", spec := "sumTells", apart := false }
def SumTellsSaid : Prop := sumTellsRow.holds Try.pinned (OpenSpec.ofChange sumTellsSpec)

/-- ITS FALSE NEIGHBOUR: 'it returns false'. Refute it at one input. -/
def sumTellsWrong : ChangeSpec := { name := "sumTells", fn := fun _ => fun
  | [d1, d2, d3, d4] => { results := [.lit (.bool false)], args := [d1, d2, d3, d4] }
  | _ => none }
def SumTellsWrongFalsely : Prop := sumTellsRow.holds Try.pinned (OpenSpec.ofChange sumTellsWrong)

/-- 'bazaarlaw05.Sums': WHATEVER THE INPUT: true; the input reads as it did. -/
def sumsSpec : ChangeSpec := { name := "sums", fn := fun _ => fun
  | [d1, d2, d3] => { results := [.lit (.bool true)], args := [d1, d2, d3] }
  | _ => none }
def sumsRow : OpenClaim := { program := "ytdphcmmpkacmfaa", sum := "9c4c38f352fe8a3e765ffa588f1c5f2d1ee6cc3b0edccf6ef35561d590a456e0", func := "bazaar/bazaarlaw05.Sums", spec := "sums", apart := false }
def SumsSaid : Prop := sumsRow.holds Try.pinned (OpenSpec.ofChange sumsSpec)

/-- ITS FALSE NEIGHBOUR: 'it returns false'. Refute it at one input. -/
def sumsWrong : ChangeSpec := { name := "sums", fn := fun _ => fun
  | [d1, d2, d3] => { results := [.lit (.bool false)], args := [d1, d2, d3] }
  | _ => none }
def SumsWrongFalsely : Prop := sumsRow.holds Try.pinned (OpenSpec.ofChange sumsWrong)

/-- 'bazaarlaw05.SumForged': WHATEVER THE INPUT: true; the input reads as it did. -/
def sumForgedSpec : ChangeSpec := { name := "sumForged", fn := fun _ => fun
  | [d1, d2, d3] => { results := [.lit (.bool true)], args := [d1, d2, d3] }
  | _ => none }
def sumForgedRow : OpenClaim := { program := "ytdphcmmpkacmfaa", sum := "9c4c38f352fe8a3e765ffa588f1c5f2d1ee6cc3b0edccf6ef35561d590a456e0", func := "bazaar/bazaarlaw05.SumForged", spec := "sumForged", apart := false }
def SumForgedSaid : Prop := sumForgedRow.holds Try.pinned (OpenSpec.ofChange sumForgedSpec)

/-- ITS FALSE NEIGHBOUR: 'it returns false'. Refute it at one input. -/
def sumForgedWrong : ChangeSpec := { name := "sumForged", fn := fun _ => fun
  | [d1, d2, d3] => { results := [.lit (.bool false)], args := [d1, d2, d3] }
  | _ => none }
def SumForgedWrongFalsely : Prop := sumForgedRow.holds Try.pinned (OpenSpec.ofChange sumForgedWrong)

/-- 'bazaarlaw05.SumStreams': WHATEVER THE INPUT: true; the input reads as it did. -/
def sumStreamsSpec : ChangeSpec := { name := "sumStreams", fn := fun _ => fun
  | [d] => { results := [.lit (.bool true)], args := [d] }
  | _ => none }
def sumStreamsRow : OpenClaim := { program := "ytdphcmmpkacmfaa", sum := "9c4c38f352fe8a3e765ffa588f1c5f2d1ee6cc3b0edccf6ef35561d590a456e0", func := "bazaar/bazaarlaw05.SumStreams", spec := "sumStreams", apart := false }
def SumStreamsSaid : Prop := sumStreamsRow.holds Try.pinned (OpenSpec.ofChange sumStreamsSpec)

/-- ITS FALSE NEIGHBOUR: 'it returns false'. Refute it at one input. -/
def sumStreamsWrong : ChangeSpec := { name := "sumStreams", fn := fun _ => fun
  | [d] => { results := [.lit (.bool false)], args := [d] }
  | _ => none }
def SumStreamsWrongFalsely : Prop := sumStreamsRow.holds Try.pinned (OpenSpec.ofChange sumStreamsWrong)

/-- 'bazaarlaw05.SumPieces': WHATEVER THE INPUT: true; the input reads as it did. -/
def sumPiecesSpec : ChangeSpec := { name := "sumPieces", fn := fun _ => fun
  | [d1, d2, d3, d4] => { results := [.lit (.bool true)], args := [d1, d2, d3, d4] }
  | _ => none }
def sumPiecesRow : OpenClaim := { program := "ytdphcmmpkacmfaa", sum := "9c4c38f352fe8a3e765ffa588f1c5f2d1ee6cc3b0edccf6ef35561d590a456e0", func := "bazaar/bazaarlaw05.SumPieces", spec := "sumPieces", apart := false }
def SumPiecesSaid : Prop := sumPiecesRow.holds Try.pinned (OpenSpec.ofChange sumPiecesSpec)

/-- ITS FALSE NEIGHBOUR: 'it returns false'. Refute it at one input. -/
def sumPiecesWrong : ChangeSpec := { name := "sumPieces", fn := fun _ => fun
  | [d1, d2, d3, d4] => { results := [.lit (.bool false)], args := [d1, d2, d3, d4] }
  | _ => none }
def SumPiecesWrongFalsely : Prop := sumPiecesRow.holds Try.pinned (OpenSpec.ofChange sumPiecesWrong)

/-- 'bazaarlaw05.SumOwn': WHATEVER THE INPUT: true; the input reads as it did. -/
def sumOwnSpec : ChangeSpec := { name := "sumOwn", fn := fun _ => fun
  | [d1, d2, d3] => { results := [.lit (.bool true)], args := [d1, d2, d3] }
  | _ => none }
def sumOwnRow : OpenClaim := { program := "ytdphcmmpkacmfaa", sum := "9c4c38f352fe8a3e765ffa588f1c5f2d1ee6cc3b0edccf6ef35561d590a456e0", func := "bazaar/bazaarlaw05.SumOwn", spec := "sumOwn", apart := false }
def SumOwnSaid : Prop := sumOwnRow.holds Try.pinned (OpenSpec.ofChange sumOwnSpec)

/-- ITS FALSE NEIGHBOUR: 'it returns false'. Refute it at one input. -/
def sumOwnWrong : ChangeSpec := { name := "sumOwn", fn := fun _ => fun
  | [d1, d2, d3] => { results := [.lit (.bool false)], args := [d1, d2, d3] }
  | _ => none }
def SumOwnWrongFalsely : Prop := sumOwnRow.holds Try.pinned (OpenSpec.ofChange sumOwnWrong)

/-- 'bazaarlaw05.SumKnown': WHATEVER THE INPUT: true; the input reads as it did. -/
def sumKnownSpec : ChangeSpec := { name := "sumKnown", fn := fun _ => fun
  | [] => { results := [.lit (.bool true)], args := [] }
  | _ => none }
def sumKnownRow : OpenClaim := { program := "ytdphcmmpkacmfaa", sum := "9c4c38f352fe8a3e765ffa588f1c5f2d1ee6cc3b0edccf6ef35561d590a456e0", func := "bazaar/bazaarlaw05.SumKnown", spec := "sumKnown", apart := false }
def SumKnownSaid : Prop := sumKnownRow.holds Try.pinned (OpenSpec.ofChange sumKnownSpec)

/-- ITS FALSE NEIGHBOUR: 'it returns false'. Refute it at one input. -/
def sumKnownWrong : ChangeSpec := { name := "sumKnown", fn := fun _ => fun
  | [] => { results := [.lit (.bool false)], args := [] }
  | _ => none }
def SumKnownWrongFalsely : Prop := sumKnownRow.holds Try.pinned (OpenSpec.ofChange sumKnownWrong)

/- THE SECOND FORM. 'bulk': how many values and letters a reading holds, each counted each time it is reached (what is shared counts as often as it is met; a slice's spare places count too). A statement '..UptoSaid' is the law's where the arguments, and the package variables that the reading takes, are together of bulk at most 1048576: NARROWER than '..Said'. Prove '..Said' where nothing that the law and all that it calls make is longer than what came in: it says more and counts as full. Else prove '..UptoSaid'. A law counts once. -/
mutual
def uptoBulk {H : Type} : DataW H → Nat
  | .lit (.string bytes) => bytes.length + 1
  | .lit _ => 1
  | .nil => 1
  | .ptr d => uptoBulk d + 1
  | .slice elems spare => uptoBulkAll elems + uptoBulkAll spare + 1
  | .agg parts => uptoBulkAll parts + 1
  | .iface _ d => uptoBulk d + 1
  | .map entries => uptoBulkEntries entries + 1
  | .held _ => 1
def uptoBulkAll {H : Type} : List (DataW H) → Nat
  | [] => 0
  | d :: r => uptoBulk d + uptoBulkAll r
def uptoBulkEntries {H : Type} : List (Lit × DataW H) → Nat
  | [] => 0
  | x :: r => uptoBulkEntry x + uptoBulkEntries r
def uptoBulkEntry {H : Type} : Lit × DataW H → Nat
  | (.string bytes, d) => bytes.length + uptoBulk d + 1
  | (_, d) => uptoBulk d + 1
 end
def uptoSmall : (H : Type) → List (DataW H) → Bool := fun _ ds => decide (uptoBulkAll ds ≤ 1048576)
def OpenSpec.upto (s : _root_.Go.ChangeSpec) : _root_.Go.OpenSpec := { _root_.Go.OpenSpec.ofChange s with cond := some uptoSmall }

/-- 'bazaarlaw05.SumLong', WHERE WHAT IT READS IS OF BULK AT MOST 1048576: true; the input reads as it did. -/
def sumLongUptoRow : OpenClaim := { program := "ytdphcmmpkacmfaa", sum := "9c4c38f352fe8a3e765ffa588f1c5f2d1ee6cc3b0edccf6ef35561d590a456e0", func := "bazaar/bazaarlaw05.SumLong", spec := "sumLong", apart := false, narrowed := true }
def SumLongUptoSaid : Prop := sumLongUptoRow.holds Try.pinned (OpenSpec.upto sumLongSpec)

/-- 'bazaarlaw05.SumTells', WHERE WHAT IT READS IS OF BULK AT MOST 1048576: true; the input reads as it did. -/
def sumTellsUptoRow : OpenClaim := { program := "ytdphcmmpkacmfaa", sum := "9c4c38f352fe8a3e765ffa588f1c5f2d1ee6cc3b0edccf6ef35561d590a456e0", func := "bazaar/bazaarlaw05.SumTells", spec := "sumTells", apart := false, narrowed := true }
def SumTellsUptoSaid : Prop := sumTellsUptoRow.holds Try.pinned (OpenSpec.upto sumTellsSpec)

/-- 'bazaarlaw05.Sums', WHERE WHAT IT READS IS OF BULK AT MOST 1048576: true; the input reads as it did. -/
def sumsUptoRow : OpenClaim := { program := "ytdphcmmpkacmfaa", sum := "9c4c38f352fe8a3e765ffa588f1c5f2d1ee6cc3b0edccf6ef35561d590a456e0", func := "bazaar/bazaarlaw05.Sums", spec := "sums", apart := false, narrowed := true }
def SumsUptoSaid : Prop := sumsUptoRow.holds Try.pinned (OpenSpec.upto sumsSpec)

/-- 'bazaarlaw05.SumForged', WHERE WHAT IT READS IS OF BULK AT MOST 1048576: true; the input reads as it did. -/
def sumForgedUptoRow : OpenClaim := { program := "ytdphcmmpkacmfaa", sum := "9c4c38f352fe8a3e765ffa588f1c5f2d1ee6cc3b0edccf6ef35561d590a456e0", func := "bazaar/bazaarlaw05.SumForged", spec := "sumForged", apart := false, narrowed := true }
def SumForgedUptoSaid : Prop := sumForgedUptoRow.holds Try.pinned (OpenSpec.upto sumForgedSpec)

/-- 'bazaarlaw05.SumStreams', WHERE WHAT IT READS IS OF BULK AT MOST 1048576: true; the input reads as it did. -/
def sumStreamsUptoRow : OpenClaim := { program := "ytdphcmmpkacmfaa", sum := "9c4c38f352fe8a3e765ffa588f1c5f2d1ee6cc3b0edccf6ef35561d590a456e0", func := "bazaar/bazaarlaw05.SumStreams", spec := "sumStreams", apart := false, narrowed := true }
def SumStreamsUptoSaid : Prop := sumStreamsUptoRow.holds Try.pinned (OpenSpec.upto sumStreamsSpec)

/-- 'bazaarlaw05.SumPieces', WHERE WHAT IT READS IS OF BULK AT MOST 1048576: true; the input reads as it did. -/
def sumPiecesUptoRow : OpenClaim := { program := "ytdphcmmpkacmfaa", sum := "9c4c38f352fe8a3e765ffa588f1c5f2d1ee6cc3b0edccf6ef35561d590a456e0", func := "bazaar/bazaarlaw05.SumPieces", spec := "sumPieces", apart := false, narrowed := true }
def SumPiecesUptoSaid : Prop := sumPiecesUptoRow.holds Try.pinned (OpenSpec.upto sumPiecesSpec)

/-- 'bazaarlaw05.SumOwn', WHERE WHAT IT READS IS OF BULK AT MOST 1048576: true; the input reads as it did. -/
def sumOwnUptoRow : OpenClaim := { program := "ytdphcmmpkacmfaa", sum := "9c4c38f352fe8a3e765ffa588f1c5f2d1ee6cc3b0edccf6ef35561d590a456e0", func := "bazaar/bazaarlaw05.SumOwn", spec := "sumOwn", apart := false, narrowed := true }
def SumOwnUptoSaid : Prop := sumOwnUptoRow.holds Try.pinned (OpenSpec.upto sumOwnSpec)

/-- 'bazaarlaw05.SumKnown', WHERE WHAT IT READS IS OF BULK AT MOST 1048576: true; the input reads as it did. -/
def sumKnownUptoRow : OpenClaim := { program := "ytdphcmmpkacmfaa", sum := "9c4c38f352fe8a3e765ffa588f1c5f2d1ee6cc3b0edccf6ef35561d590a456e0", func := "bazaar/bazaarlaw05.SumKnown", spec := "sumKnown", apart := false, narrowed := true }
def SumKnownUptoSaid : Prop := sumKnownUptoRow.holds Try.pinned (OpenSpec.upto sumKnownSpec)

end Rows
end Go.Proofs.Ytdphcmmpkacmfaa
