/-
  No cell of these rows narrows 'for every input' (looked for: loops, veiled, ifaces, maps, wideKeys, modest, calm, conditions, laid).
  DERIVED. THE GIVEN ROWS OF THIS SEAT. 9 by the template 'for every input the law returns true; each argument reads behind the call as it read before'; 0 by the template 'total and deterministic' (their statements: YtdkfaicmdbhonaaTotals.lean).
  GIVEN WITH THE SEED: the statements are not yours to turn. If you find one false, say at which input.
  Laid BY PROGRAM, IN A SANDBOX (cutbox-rows.mjs): the forced cells as the released guide's own fill.sh prints them over the translation 3a3446b540a9c720… (all of the seat's roots in one cut). By AI agents, Wed Nov 11 2026. No macro, syntax, notation, axiom, sorry.
-/
import Derived.Test.YtdkfaicmdbhonaaChecked
import GoSem.Claim
import GoSem.ClaimJoined
import GoSem.ClaimMapViews
import Derived.JoinedTies
import Derived.KernelRfl
namespace Go.Proofs.Ytdkfaicmdbhonaa
/- THE CELL 'sum', in the pinned program and in every row, IS THE sha256 OF THE DUMP (.gsa) THAT YtdkfaicmdbhonaaProg.lean LOADS. Nothing in Lean hashes anything: it is a label: what it is worth is what the hold of that sum in a sandbox is worth. -/
noncomputable def Try.pinned : Pinned := { name := "ytdkfaicmdbhonaa", sum := "3a3446b540a9c720683f4dcbe4758a7512236e57153d337f3989572687fa0dc0", checked := Try.checked }
namespace Rows
def none {H : Type} : Left H := { results := [], args := [] }

/-- 'bazaarlaw01.CountSums': WHATEVER THE INPUT: true; the input reads as it did. -/
def countSumsSpec : ChangeSpec := { name := "countSums", fn := fun _ => fun
  | [d] => { results := [.lit (.bool true)], args := [d] }
  | _ => none }
def countSumsRow : OpenClaim := { program := "ytdkfaicmdbhonaa", sum := "3a3446b540a9c720683f4dcbe4758a7512236e57153d337f3989572687fa0dc0", func := "bazaar/bazaarlaw01.CountSums", spec := "countSums", inPlace := ["math/bits.Add64"], apart := false }
def CountSumsSaid : Prop := countSumsRow.holds Try.pinned (OpenSpec.ofChange countSumsSpec)

/-- ITS FALSE NEIGHBOUR: 'it returns false'. Refute it at one input. -/
def countSumsWrong : ChangeSpec := { name := "countSums", fn := fun _ => fun
  | [d] => { results := [.lit (.bool false)], args := [d] }
  | _ => none }
def CountSumsWrongFalsely : Prop := countSumsRow.holds Try.pinned (OpenSpec.ofChange countSumsWrong)

/-- 'bazaarlaw01.CountAdds': WHATEVER THE INPUT: true; the input reads as it did. -/
def countAddsSpec : ChangeSpec := { name := "countAdds", fn := fun _ => fun
  | [d1, d2] => { results := [.lit (.bool true)], args := [d1, d2] }
  | _ => none }
def countAddsRow : OpenClaim := { program := "ytdkfaicmdbhonaa", sum := "3a3446b540a9c720683f4dcbe4758a7512236e57153d337f3989572687fa0dc0", func := "bazaar/bazaarlaw01.CountAdds", spec := "countAdds", inPlace := ["math/bits.Add64"], apart := false }
def CountAddsSaid : Prop := countAddsRow.holds Try.pinned (OpenSpec.ofChange countAddsSpec)

/-- ITS FALSE NEIGHBOUR: 'it returns false'. Refute it at one input. -/
def countAddsWrong : ChangeSpec := { name := "countAdds", fn := fun _ => fun
  | [d1, d2] => { results := [.lit (.bool false)], args := [d1, d2] }
  | _ => none }
def CountAddsWrongFalsely : Prop := countAddsRow.holds Try.pinned (OpenSpec.ofChange countAddsWrong)

/-- 'bazaarlaw01.CountWides': WHATEVER THE INPUT: true; the input reads as it did. -/
def countWidesSpec : ChangeSpec := { name := "countWides", fn := fun _ => fun
  | [d1, d2, d3] => { results := [.lit (.bool true)], args := [d1, d2, d3] }
  | _ => none }
def countWidesRow : OpenClaim := { program := "ytdkfaicmdbhonaa", sum := "3a3446b540a9c720683f4dcbe4758a7512236e57153d337f3989572687fa0dc0", func := "bazaar/bazaarlaw01.CountWides", spec := "countWides", inPlace := ["math/bits.Add64"], named := ["math/bits.divideError", "math/bits.overflowError"], apart := false }
def CountWidesSaid : Prop := countWidesRow.holds Try.pinned (OpenSpec.ofChange countWidesSpec)

/-- ITS FALSE NEIGHBOUR: 'it returns false'. Refute it at one input. -/
def countWidesWrong : ChangeSpec := { name := "countWides", fn := fun _ => fun
  | [d1, d2, d3] => { results := [.lit (.bool false)], args := [d1, d2, d3] }
  | _ => none }
def CountWidesWrongFalsely : Prop := countWidesRow.holds Try.pinned (OpenSpec.ofChange countWidesWrong)

/-- 'bazaarlaw01.CountShares': WHATEVER THE INPUT: true; the input reads as it did. -/
def countSharesSpec : ChangeSpec := { name := "countShares", fn := fun _ => fun
  | [d1, d2] => { results := [.lit (.bool true)], args := [d1, d2] }
  | _ => none }
def countSharesRow : OpenClaim := { program := "ytdkfaicmdbhonaa", sum := "3a3446b540a9c720683f4dcbe4758a7512236e57153d337f3989572687fa0dc0", func := "bazaar/bazaarlaw01.CountShares", spec := "countShares", inPlace := ["math/bits.Add64", "internal/reflectlite.ValueOf", "internal/reflectlite.Swapper", "(internal/reflectlite.Value).Len"], unfollowed := true, recurses := true, named := ["math/bits.divideError", "math/bits.overflowError"], apart := false }
def CountSharesSaid : Prop := countSharesRow.holds Try.pinned (OpenSpec.ofChange countSharesSpec)

/-- ITS FALSE NEIGHBOUR: 'it returns false'. Refute it at one input. -/
def countSharesWrong : ChangeSpec := { name := "countShares", fn := fun _ => fun
  | [d1, d2] => { results := [.lit (.bool false)], args := [d1, d2] }
  | _ => none }
def CountSharesWrongFalsely : Prop := countSharesRow.holds Try.pinned (OpenSpec.ofChange countSharesWrong)

/-- 'bazaarlaw01.CountFair': WHATEVER THE INPUT: true; the input reads as it did. -/
def countFairSpec : ChangeSpec := { name := "countFair", fn := fun _ => fun
  | [d1, d2] => { results := [.lit (.bool true)], args := [d1, d2] }
  | _ => none }
def countFairRow : OpenClaim := { program := "ytdkfaicmdbhonaa", sum := "3a3446b540a9c720683f4dcbe4758a7512236e57153d337f3989572687fa0dc0", func := "bazaar/bazaarlaw01.CountFair", spec := "countFair", inPlace := ["math/bits.Add64", "internal/reflectlite.ValueOf", "internal/reflectlite.Swapper", "(internal/reflectlite.Value).Len"], unfollowed := true, recurses := true, named := ["math/bits.divideError", "math/bits.overflowError"], apart := false }
def CountFairSaid : Prop := countFairRow.holds Try.pinned (OpenSpec.ofChange countFairSpec)

/-- ITS FALSE NEIGHBOUR: 'it returns false'. Refute it at one input. -/
def countFairWrong : ChangeSpec := { name := "countFair", fn := fun _ => fun
  | [d1, d2] => { results := [.lit (.bool false)], args := [d1, d2] }
  | _ => none }
def CountFairWrongFalsely : Prop := countFairRow.holds Try.pinned (OpenSpec.ofChange countFairWrong)

/-- 'bazaarlaw01.CountScaled': WHATEVER THE INPUT: true; the input reads as it did. -/
def countScaledSpec : ChangeSpec := { name := "countScaled", fn := fun _ => fun
  | [d1, d2, d3] => { results := [.lit (.bool true)], args := [d1, d2, d3] }
  | _ => none }
def countScaledRow : OpenClaim := { program := "ytdkfaicmdbhonaa", sum := "3a3446b540a9c720683f4dcbe4758a7512236e57153d337f3989572687fa0dc0", func := "bazaar/bazaarlaw01.CountScaled", spec := "countScaled", inPlace := ["math/bits.Add64", "internal/reflectlite.ValueOf", "internal/reflectlite.Swapper", "(internal/reflectlite.Value).Len"], unfollowed := true, recurses := true, named := ["math/bits.divideError", "math/bits.overflowError"], apart := false }
def CountScaledSaid : Prop := countScaledRow.holds Try.pinned (OpenSpec.ofChange countScaledSpec)

/-- ITS FALSE NEIGHBOUR: 'it returns false'. Refute it at one input. -/
def countScaledWrong : ChangeSpec := { name := "countScaled", fn := fun _ => fun
  | [d1, d2, d3] => { results := [.lit (.bool false)], args := [d1, d2, d3] }
  | _ => none }
def CountScaledWrongFalsely : Prop := countScaledRow.holds Try.pinned (OpenSpec.ofChange countScaledWrong)

/-- 'bazaarlaw01.CountOrder': WHATEVER THE INPUT: true; the input reads as it did. -/
def countOrderSpec : ChangeSpec := { name := "countOrder", fn := fun _ => fun
  | [d1, d2] => { results := [.lit (.bool true)], args := [d1, d2] }
  | _ => none }
def countOrderRow : OpenClaim := { program := "ytdkfaicmdbhonaa", sum := "3a3446b540a9c720683f4dcbe4758a7512236e57153d337f3989572687fa0dc0", func := "bazaar/bazaarlaw01.CountOrder", spec := "countOrder", inPlace := ["math/bits.Add64", "internal/reflectlite.ValueOf", "internal/reflectlite.Swapper", "(internal/reflectlite.Value).Len"], unfollowed := true, recurses := true, named := ["math/bits.divideError", "math/bits.overflowError"], apart := false }
def CountOrderSaid : Prop := countOrderRow.holds Try.pinned (OpenSpec.ofChange countOrderSpec)

/-- ITS FALSE NEIGHBOUR: 'it returns false'. Refute it at one input. -/
def countOrderWrong : ChangeSpec := { name := "countOrder", fn := fun _ => fun
  | [d1, d2] => { results := [.lit (.bool false)], args := [d1, d2] }
  | _ => none }
def CountOrderWrongFalsely : Prop := countOrderRow.holds Try.pinned (OpenSpec.ofChange countOrderWrong)

/-- 'bazaarlaw01.CountOwn': WHATEVER THE INPUT: true; the input reads as it did. -/
def countOwnSpec : ChangeSpec := { name := "countOwn", fn := fun _ => fun
  | [d1, d2, d3] => { results := [.lit (.bool true)], args := [d1, d2, d3] }
  | _ => none }
def countOwnRow : OpenClaim := { program := "ytdkfaicmdbhonaa", sum := "3a3446b540a9c720683f4dcbe4758a7512236e57153d337f3989572687fa0dc0", func := "bazaar/bazaarlaw01.CountOwn", spec := "countOwn", inPlace := ["math/bits.Add64", "internal/reflectlite.ValueOf", "internal/reflectlite.Swapper", "(internal/reflectlite.Value).Len"], unfollowed := true, recurses := true, named := ["math/bits.divideError", "math/bits.overflowError"], apart := false }
def CountOwnSaid : Prop := countOwnRow.holds Try.pinned (OpenSpec.ofChange countOwnSpec)

/-- ITS FALSE NEIGHBOUR: 'it returns false'. Refute it at one input. -/
def countOwnWrong : ChangeSpec := { name := "countOwn", fn := fun _ => fun
  | [d1, d2, d3] => { results := [.lit (.bool false)], args := [d1, d2, d3] }
  | _ => none }
def CountOwnWrongFalsely : Prop := countOwnRow.holds Try.pinned (OpenSpec.ofChange countOwnWrong)

/-- 'bazaarlaw01.CountBack': WHATEVER THE INPUT: true; the input reads as it did. -/
def countBackSpec : ChangeSpec := { name := "countBack", fn := fun _ => fun
  | [d1, d2, d3] => { results := [.lit (.bool true)], args := [d1, d2, d3] }
  | _ => none }
def countBackRow : OpenClaim := { program := "ytdkfaicmdbhonaa", sum := "3a3446b540a9c720683f4dcbe4758a7512236e57153d337f3989572687fa0dc0", func := "bazaar/bazaarlaw01.CountBack", spec := "countBack", inPlace := ["math/bits.Add64", "internal/reflectlite.ValueOf", "internal/reflectlite.Swapper", "(internal/reflectlite.Value).Len"], unfollowed := true, recurses := true, named := ["math/bits.divideError", "math/bits.overflowError"], apart := false }
def CountBackSaid : Prop := countBackRow.holds Try.pinned (OpenSpec.ofChange countBackSpec)

/-- ITS FALSE NEIGHBOUR: 'it returns false'. Refute it at one input. -/
def countBackWrong : ChangeSpec := { name := "countBack", fn := fun _ => fun
  | [d1, d2, d3] => { results := [.lit (.bool false)], args := [d1, d2, d3] }
  | _ => none }
def CountBackWrongFalsely : Prop := countBackRow.holds Try.pinned (OpenSpec.ofChange countBackWrong)

/- THE SECOND FORM. 'bulk': how many values and letters a reading holds, each counted each time it is reached (what is shared counts as often as it is met; a slice's spare places count too). A statement '..UptoSaid' is the law's where the arguments, and the package variables that the reading takes, are together of bulk at most 1048576: NARROWER than '..Said'. Prove '..Said' where nothing that the law and all that it calls make is longer than what came in: it says more and counts as full. Else prove '..UptoSaid'. A law counts once. -/
mutual
def uptoBulk {H : Type} : DataW H → Nat
  | .lit (.string bytes) => bytes.length + 1
  | .lit _ => 1
  | .nil => 1
  | .ptr d => uptoBulk d + 1
  | .slice elems spare => uptoBulkAll elems + uptoBulkAll spare + 1
  | .agg parts => uptoBulkAll parts + 1
  | .iface _ d => uptoBulk d + 1
  | .map entries => uptoBulkEntries entries + 1
  | .held _ => 1
def uptoBulkAll {H : Type} : List (DataW H) → Nat
  | [] => 0
  | d :: r => uptoBulk d + uptoBulkAll r
def uptoBulkEntries {H : Type} : List (Lit × DataW H) → Nat
  | [] => 0
  | x :: r => uptoBulkEntry x + uptoBulkEntries r
def uptoBulkEntry {H : Type} : Lit × DataW H → Nat
  | (.string bytes, d) => bytes.length + uptoBulk d + 1
  | (_, d) => uptoBulk d + 1
 end
def uptoSmall : (H : Type) → List (DataW H) → Bool := fun _ ds => decide (uptoBulkAll ds ≤ 1048576)
def OpenSpec.upto (s : _root_.Go.ChangeSpec) : _root_.Go.OpenSpec := { _root_.Go.OpenSpec.ofChange s with cond := some uptoSmall }

/-- 'bazaarlaw01.CountSums', WHERE WHAT IT READS IS OF BULK AT MOST 1048576: true; the input reads as it did. -/
def countSumsUptoRow : OpenClaim := { program := "ytdkfaicmdbhonaa", sum := "3a3446b540a9c720683f4dcbe4758a7512236e57153d337f3989572687fa0dc0", func := "bazaar/bazaarlaw01.CountSums", spec := "countSums", inPlace := ["math/bits.Add64"], apart := false, narrowed := true }
def CountSumsUptoSaid : Prop := countSumsUptoRow.holds Try.pinned (OpenSpec.upto countSumsSpec)

/-- 'bazaarlaw01.CountAdds', WHERE WHAT IT READS IS OF BULK AT MOST 1048576: true; the input reads as it did. -/
def countAddsUptoRow : OpenClaim := { program := "ytdkfaicmdbhonaa", sum := "3a3446b540a9c720683f4dcbe4758a7512236e57153d337f3989572687fa0dc0", func := "bazaar/bazaarlaw01.CountAdds", spec := "countAdds", inPlace := ["math/bits.Add64"], apart := false, narrowed := true }
def CountAddsUptoSaid : Prop := countAddsUptoRow.holds Try.pinned (OpenSpec.upto countAddsSpec)

/-- 'bazaarlaw01.CountWides', WHERE WHAT IT READS IS OF BULK AT MOST 1048576: true; the input reads as it did. -/
def countWidesUptoRow : OpenClaim := { program := "ytdkfaicmdbhonaa", sum := "3a3446b540a9c720683f4dcbe4758a7512236e57153d337f3989572687fa0dc0", func := "bazaar/bazaarlaw01.CountWides", spec := "countWides", inPlace := ["math/bits.Add64"], named := ["math/bits.divideError", "math/bits.overflowError"], apart := false, narrowed := true }
def CountWidesUptoSaid : Prop := countWidesUptoRow.holds Try.pinned (OpenSpec.upto countWidesSpec)

/-- 'bazaarlaw01.CountShares', WHERE WHAT IT READS IS OF BULK AT MOST 1048576: true; the input reads as it did. -/
def countSharesUptoRow : OpenClaim := { program := "ytdkfaicmdbhonaa", sum := "3a3446b540a9c720683f4dcbe4758a7512236e57153d337f3989572687fa0dc0", func := "bazaar/bazaarlaw01.CountShares", spec := "countShares", inPlace := ["math/bits.Add64", "internal/reflectlite.ValueOf", "internal/reflectlite.Swapper", "(internal/reflectlite.Value).Len"], unfollowed := true, recurses := true, named := ["math/bits.divideError", "math/bits.overflowError"], apart := false, narrowed := true }
def CountSharesUptoSaid : Prop := countSharesUptoRow.holds Try.pinned (OpenSpec.upto countSharesSpec)

/-- 'bazaarlaw01.CountFair', WHERE WHAT IT READS IS OF BULK AT MOST 1048576: true; the input reads as it did. -/
def countFairUptoRow : OpenClaim := { program := "ytdkfaicmdbhonaa", sum := "3a3446b540a9c720683f4dcbe4758a7512236e57153d337f3989572687fa0dc0", func := "bazaar/bazaarlaw01.CountFair", spec := "countFair", inPlace := ["math/bits.Add64", "internal/reflectlite.ValueOf", "internal/reflectlite.Swapper", "(internal/reflectlite.Value).Len"], unfollowed := true, recurses := true, named := ["math/bits.divideError", "math/bits.overflowError"], apart := false, narrowed := true }
def CountFairUptoSaid : Prop := countFairUptoRow.holds Try.pinned (OpenSpec.upto countFairSpec)

/-- 'bazaarlaw01.CountScaled', WHERE WHAT IT READS IS OF BULK AT MOST 1048576: true; the input reads as it did. -/
def countScaledUptoRow : OpenClaim := { program := "ytdkfaicmdbhonaa", sum := "3a3446b540a9c720683f4dcbe4758a7512236e57153d337f3989572687fa0dc0", func := "bazaar/bazaarlaw01.CountScaled", spec := "countScaled", inPlace := ["math/bits.Add64", "internal/reflectlite.ValueOf", "internal/reflectlite.Swapper", "(internal/reflectlite.Value).Len"], unfollowed := true, recurses := true, named := ["math/bits.divideError", "math/bits.overflowError"], apart := false, narrowed := true }
def CountScaledUptoSaid : Prop := countScaledUptoRow.holds Try.pinned (OpenSpec.upto countScaledSpec)

/-- 'bazaarlaw01.CountOrder', WHERE WHAT IT READS IS OF BULK AT MOST 1048576: true; the input reads as it did. -/
def countOrderUptoRow : OpenClaim := { program := "ytdkfaicmdbhonaa", sum := "3a3446b540a9c720683f4dcbe4758a7512236e57153d337f3989572687fa0dc0", func := "bazaar/bazaarlaw01.CountOrder", spec := "countOrder", inPlace := ["math/bits.Add64", "internal/reflectlite.ValueOf", "internal/reflectlite.Swapper", "(internal/reflectlite.Value).Len"], unfollowed := true, recurses := true, named := ["math/bits.divideError", "math/bits.overflowError"], apart := false, narrowed := true }
def CountOrderUptoSaid : Prop := countOrderUptoRow.holds Try.pinned (OpenSpec.upto countOrderSpec)

/-- 'bazaarlaw01.CountOwn', WHERE WHAT IT READS IS OF BULK AT MOST 1048576: true; the input reads as it did. -/
def countOwnUptoRow : OpenClaim := { program := "ytdkfaicmdbhonaa", sum := "3a3446b540a9c720683f4dcbe4758a7512236e57153d337f3989572687fa0dc0", func := "bazaar/bazaarlaw01.CountOwn", spec := "countOwn", inPlace := ["math/bits.Add64", "internal/reflectlite.ValueOf", "internal/reflectlite.Swapper", "(internal/reflectlite.Value).Len"], unfollowed := true, recurses := true, named := ["math/bits.divideError", "math/bits.overflowError"], apart := false, narrowed := true }
def CountOwnUptoSaid : Prop := countOwnUptoRow.holds Try.pinned (OpenSpec.upto countOwnSpec)

/-- 'bazaarlaw01.CountBack', WHERE WHAT IT READS IS OF BULK AT MOST 1048576: true; the input reads as it did. -/
def countBackUptoRow : OpenClaim := { program := "ytdkfaicmdbhonaa", sum := "3a3446b540a9c720683f4dcbe4758a7512236e57153d337f3989572687fa0dc0", func := "bazaar/bazaarlaw01.CountBack", spec := "countBack", inPlace := ["math/bits.Add64", "internal/reflectlite.ValueOf", "internal/reflectlite.Swapper", "(internal/reflectlite.Value).Len"], unfollowed := true, recurses := true, named := ["math/bits.divideError", "math/bits.overflowError"], apart := false, narrowed := true }
def CountBackUptoSaid : Prop := countBackUptoRow.holds Try.pinned (OpenSpec.upto countBackSpec)

end Rows
end Go.Proofs.Ytdkfaicmdbhonaa
