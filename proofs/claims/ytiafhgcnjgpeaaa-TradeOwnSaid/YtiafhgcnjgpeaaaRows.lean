/-
  No cell of these rows narrows 'for every input' (looked for: loops, veiled, ifaces, maps, wideKeys, modest, calm, conditions, laid).
  DERIVED. THE GIVEN ROWS OF THIS SEAT. 7 by the template 'for every input the law returns true; each argument reads behind the call as it read before'; 0 by the template 'total and deterministic' (their statements: YtiafhgcnjgpeaaaTotals.lean).
  GIVEN WITH THE SEED: the statements are not yours to turn. If you find one false, say at which input.
  Laid BY PROGRAM, IN A SANDBOX (cutbox-rows.mjs): the forced cells as the released guide's own fill.sh prints them over the translation bf585db5769ea200… (all of the seat's roots in one cut). By AI agents, Wed Nov 11 2026. No macro, syntax, notation, axiom, sorry.
-/
import Derived.Test.YtiafhgcnjgpeaaaChecked
import GoSem.Claim
import GoSem.ClaimJoined
import GoSem.ClaimMapViews
import Derived.JoinedTies
import Derived.KernelRfl
namespace Go.Proofs.Ytiafhgcnjgpeaaa
/- THE CELL 'sum', in the pinned program and in every row, IS THE sha256 OF THE DUMP (.gsa) THAT YtiafhgcnjgpeaaaProg.lean LOADS. Nothing in Lean hashes anything: it is a label: what it is worth is what the hold of that sum in a sandbox is worth. -/
noncomputable def Try.pinned : Pinned := { name := "ytiafhgcnjgpeaaa", sum := "bf585db5769ea200055b724eb0fb970e5b14127efc2a281a13831199799401d8", checked := Try.checked }
namespace Rows
def none {H : Type} : Left H := { results := [], args := [] }

/-- 'bazaarlaw20.TradeMirrors': WHATEVER THE INPUT: true; the input reads as it did. -/
def tradeMirrorsSpec : ChangeSpec := { name := "tradeMirrors", fn := fun _ => fun
  | [d] => { results := [.lit (.bool true)], args := [d] }
  | _ => none }
def tradeMirrorsRow : OpenClaim := { program := "ytiafhgcnjgpeaaa", sum := "bf585db5769ea200055b724eb0fb970e5b14127efc2a281a13831199799401d8", func := "bazaar/bazaarlaw20.TradeMirrors", spec := "tradeMirrors", apart := false }
def TradeMirrorsSaid : Prop := tradeMirrorsRow.holds Try.pinned (OpenSpec.ofChange tradeMirrorsSpec)

/-- ITS FALSE NEIGHBOUR: 'it returns false'. Refute it at one input. -/
def tradeMirrorsWrong : ChangeSpec := { name := "tradeMirrors", fn := fun _ => fun
  | [d] => { results := [.lit (.bool false)], args := [d] }
  | _ => none }
def TradeMirrorsWrongFalsely : Prop := tradeMirrorsRow.holds Try.pinned (OpenSpec.ofChange tradeMirrorsWrong)

/-- 'bazaarlaw20.TradeTerms': WHATEVER THE INPUT: true; the input reads as it did. -/
def tradeTermsSpec : ChangeSpec := { name := "tradeTerms", fn := fun _ => fun
  | [d] => { results := [.lit (.bool true)], args := [d] }
  | _ => none }
def tradeTermsRow : OpenClaim := { program := "ytiafhgcnjgpeaaa", sum := "bf585db5769ea200055b724eb0fb970e5b14127efc2a281a13831199799401d8", func := "bazaar/bazaarlaw20.TradeTerms", spec := "tradeTerms", unfollowed := true, recurses := true, apart := false }
def TradeTermsSaid : Prop := tradeTermsRow.holds Try.pinned (OpenSpec.ofChange tradeTermsSpec)

/-- ITS FALSE NEIGHBOUR: 'it returns false'. Refute it at one input. -/
def tradeTermsWrong : ChangeSpec := { name := "tradeTerms", fn := fun _ => fun
  | [d] => { results := [.lit (.bool false)], args := [d] }
  | _ => none }
def TradeTermsWrongFalsely : Prop := tradeTermsRow.holds Try.pinned (OpenSpec.ofChange tradeTermsWrong)

/-- 'bazaarlaw20.TradeJoins': WHATEVER THE INPUT: true; the input reads as it did. -/
def tradeJoinsSpec : ChangeSpec := { name := "tradeJoins", fn := fun _ => fun
  | [d1, d2] => { results := [.lit (.bool true)], args := [d1, d2] }
  | _ => none }
def tradeJoinsRow : OpenClaim := { program := "ytiafhgcnjgpeaaa", sum := "bf585db5769ea200055b724eb0fb970e5b14127efc2a281a13831199799401d8", func := "bazaar/bazaarlaw20.TradeJoins", spec := "tradeJoins", unfollowed := true, recurses := true, apart := false }
def TradeJoinsSaid : Prop := tradeJoinsRow.holds Try.pinned (OpenSpec.ofChange tradeJoinsSpec)

/-- ITS FALSE NEIGHBOUR: 'it returns false'. Refute it at one input. -/
def tradeJoinsWrong : ChangeSpec := { name := "tradeJoins", fn := fun _ => fun
  | [d1, d2] => { results := [.lit (.bool false)], args := [d1, d2] }
  | _ => none }
def TradeJoinsWrongFalsely : Prop := tradeJoinsRow.holds Try.pinned (OpenSpec.ofChange tradeJoinsWrong)

/-- 'bazaarlaw20.TradeAll': WHATEVER THE INPUT: true; the input reads as it did. -/
def tradeAllSpec : ChangeSpec := { name := "tradeAll", fn := fun _ => fun
  | [d] => { results := [.lit (.bool true)], args := [d] }
  | _ => none }
def tradeAllRow : OpenClaim := { program := "ytiafhgcnjgpeaaa", sum := "bf585db5769ea200055b724eb0fb970e5b14127efc2a281a13831199799401d8", func := "bazaar/bazaarlaw20.TradeAll", spec := "tradeAll", unfollowed := true, recurses := true, apart := false }
def TradeAllSaid : Prop := tradeAllRow.holds Try.pinned (OpenSpec.ofChange tradeAllSpec)

/-- ITS FALSE NEIGHBOUR: 'it returns false'. Refute it at one input. -/
def tradeAllWrong : ChangeSpec := { name := "tradeAll", fn := fun _ => fun
  | [d] => { results := [.lit (.bool false)], args := [d] }
  | _ => none }
def TradeAllWrongFalsely : Prop := tradeAllRow.holds Try.pinned (OpenSpec.ofChange tradeAllWrong)

/-- 'bazaarlaw20.TradeKnown': WHATEVER THE INPUT: true; the input reads as it did. -/
def tradeKnownSpec : ChangeSpec := { name := "tradeKnown", fn := fun _ => fun
  | [] => { results := [.lit (.bool true)], args := [] }
  | _ => none }
def tradeKnownRow : OpenClaim := { program := "ytiafhgcnjgpeaaa", sum := "bf585db5769ea200055b724eb0fb970e5b14127efc2a281a13831199799401d8", func := "bazaar/bazaarlaw20.TradeKnown", spec := "tradeKnown", unfollowed := true, recurses := true, apart := false }
def TradeKnownSaid : Prop := tradeKnownRow.holds Try.pinned (OpenSpec.ofChange tradeKnownSpec)

/-- ITS FALSE NEIGHBOUR: 'it returns false'. Refute it at one input. -/
def tradeKnownWrong : ChangeSpec := { name := "tradeKnown", fn := fun _ => fun
  | [] => { results := [.lit (.bool false)], args := [] }
  | _ => none }
def TradeKnownWrongFalsely : Prop := tradeKnownRow.holds Try.pinned (OpenSpec.ofChange tradeKnownWrong)

/-- 'bazaarlaw20.TradeDeal': WHATEVER THE INPUT: true; the input reads as it did. -/
def tradeDealSpec : ChangeSpec := { name := "tradeDeal", fn := fun _ => fun
  | [d1, d2] => { results := [.lit (.bool true)], args := [d1, d2] }
  | _ => none }
def tradeDealRow : OpenClaim := { program := "ytiafhgcnjgpeaaa", sum := "bf585db5769ea200055b724eb0fb970e5b14127efc2a281a13831199799401d8", func := "bazaar/bazaarlaw20.TradeDeal", spec := "tradeDeal", unfollowed := true, recurses := true, apart := false }
def TradeDealSaid : Prop := tradeDealRow.holds Try.pinned (OpenSpec.ofChange tradeDealSpec)

/-- ITS FALSE NEIGHBOUR: 'it returns false'. Refute it at one input. -/
def tradeDealWrong : ChangeSpec := { name := "tradeDeal", fn := fun _ => fun
  | [d1, d2] => { results := [.lit (.bool false)], args := [d1, d2] }
  | _ => none }
def TradeDealWrongFalsely : Prop := tradeDealRow.holds Try.pinned (OpenSpec.ofChange tradeDealWrong)

/-- 'bazaarlaw20.TradeOwn': WHATEVER THE INPUT: true; the input reads as it did. -/
def tradeOwnSpec : ChangeSpec := { name := "tradeOwn", fn := fun _ => fun
  | [d1, d2] => { results := [.lit (.bool true)], args := [d1, d2] }
  | _ => none }
def tradeOwnRow : OpenClaim := { program := "ytiafhgcnjgpeaaa", sum := "bf585db5769ea200055b724eb0fb970e5b14127efc2a281a13831199799401d8", func := "bazaar/bazaarlaw20.TradeOwn", spec := "tradeOwn", unfollowed := true, recurses := true, apart := false }
def TradeOwnSaid : Prop := tradeOwnRow.holds Try.pinned (OpenSpec.ofChange tradeOwnSpec)

/-- ITS FALSE NEIGHBOUR: 'it returns false'. Refute it at one input. -/
def tradeOwnWrong : ChangeSpec := { name := "tradeOwn", fn := fun _ => fun
  | [d1, d2] => { results := [.lit (.bool false)], args := [d1, d2] }
  | _ => none }
def TradeOwnWrongFalsely : Prop := tradeOwnRow.holds Try.pinned (OpenSpec.ofChange tradeOwnWrong)

/- THE SECOND FORM. 'bulk': how many values and letters a reading holds, each counted each time it is reached (what is shared counts as often as it is met; a slice's spare places count too). A statement '..UptoSaid' is the law's where the arguments, and the package variables that the reading takes, are together of bulk at most 1048576: NARROWER than '..Said'. Prove '..Said' where nothing that the law and all that it calls make is longer than what came in: it says more and counts as full. Else prove '..UptoSaid'. A law counts once. -/
mutual
def uptoBulk {H : Type} : DataW H → Nat
  | .lit (.string bytes) => bytes.length + 1
  | .lit _ => 1
  | .nil => 1
  | .ptr d => uptoBulk d + 1
  | .slice elems spare => uptoBulkAll elems + uptoBulkAll spare + 1
  | .agg parts => uptoBulkAll parts + 1
  | .iface _ d => uptoBulk d + 1
  | .map entries => uptoBulkEntries entries + 1
  | .held _ => 1
def uptoBulkAll {H : Type} : List (DataW H) → Nat
  | [] => 0
  | d :: r => uptoBulk d + uptoBulkAll r
def uptoBulkEntries {H : Type} : List (Lit × DataW H) → Nat
  | [] => 0
  | x :: r => uptoBulkEntry x + uptoBulkEntries r
def uptoBulkEntry {H : Type} : Lit × DataW H → Nat
  | (.string bytes, d) => bytes.length + uptoBulk d + 1
  | (_, d) => uptoBulk d + 1
 end
def uptoSmall : (H : Type) → List (DataW H) → Bool := fun _ ds => decide (uptoBulkAll ds ≤ 1048576)
def OpenSpec.upto (s : _root_.Go.ChangeSpec) : _root_.Go.OpenSpec := { _root_.Go.OpenSpec.ofChange s with cond := some uptoSmall }

/-- 'bazaarlaw20.TradeMirrors', WHERE WHAT IT READS IS OF BULK AT MOST 1048576: true; the input reads as it did. -/
def tradeMirrorsUptoRow : OpenClaim := { program := "ytiafhgcnjgpeaaa", sum := "bf585db5769ea200055b724eb0fb970e5b14127efc2a281a13831199799401d8", func := "bazaar/bazaarlaw20.TradeMirrors", spec := "tradeMirrors", apart := false, narrowed := true }
def TradeMirrorsUptoSaid : Prop := tradeMirrorsUptoRow.holds Try.pinned (OpenSpec.upto tradeMirrorsSpec)

/-- 'bazaarlaw20.TradeTerms', WHERE WHAT IT READS IS OF BULK AT MOST 1048576: true; the input reads as it did. -/
def tradeTermsUptoRow : OpenClaim := { program := "ytiafhgcnjgpeaaa", sum := "bf585db5769ea200055b724eb0fb970e5b14127efc2a281a13831199799401d8", func := "bazaar/bazaarlaw20.TradeTerms", spec := "tradeTerms", unfollowed := true, recurses := true, apart := false, narrowed := true }
def TradeTermsUptoSaid : Prop := tradeTermsUptoRow.holds Try.pinned (OpenSpec.upto tradeTermsSpec)

/-- 'bazaarlaw20.TradeJoins', WHERE WHAT IT READS IS OF BULK AT MOST 1048576: true; the input reads as it did. -/
def tradeJoinsUptoRow : OpenClaim := { program := "ytiafhgcnjgpeaaa", sum := "bf585db5769ea200055b724eb0fb970e5b14127efc2a281a13831199799401d8", func := "bazaar/bazaarlaw20.TradeJoins", spec := "tradeJoins", unfollowed := true, recurses := true, apart := false, narrowed := true }
def TradeJoinsUptoSaid : Prop := tradeJoinsUptoRow.holds Try.pinned (OpenSpec.upto tradeJoinsSpec)

/-- 'bazaarlaw20.TradeAll', WHERE WHAT IT READS IS OF BULK AT MOST 1048576: true; the input reads as it did. -/
def tradeAllUptoRow : OpenClaim := { program := "ytiafhgcnjgpeaaa", sum := "bf585db5769ea200055b724eb0fb970e5b14127efc2a281a13831199799401d8", func := "bazaar/bazaarlaw20.TradeAll", spec := "tradeAll", unfollowed := true, recurses := true, apart := false, narrowed := true }
def TradeAllUptoSaid : Prop := tradeAllUptoRow.holds Try.pinned (OpenSpec.upto tradeAllSpec)

/-- 'bazaarlaw20.TradeKnown', WHERE WHAT IT READS IS OF BULK AT MOST 1048576: true; the input reads as it did. -/
def tradeKnownUptoRow : OpenClaim := { program := "ytiafhgcnjgpeaaa", sum := "bf585db5769ea200055b724eb0fb970e5b14127efc2a281a13831199799401d8", func := "bazaar/bazaarlaw20.TradeKnown", spec := "tradeKnown", unfollowed := true, recurses := true, apart := false, narrowed := true }
def TradeKnownUptoSaid : Prop := tradeKnownUptoRow.holds Try.pinned (OpenSpec.upto tradeKnownSpec)

/-- 'bazaarlaw20.TradeDeal', WHERE WHAT IT READS IS OF BULK AT MOST 1048576: true; the input reads as it did. -/
def tradeDealUptoRow : OpenClaim := { program := "ytiafhgcnjgpeaaa", sum := "bf585db5769ea200055b724eb0fb970e5b14127efc2a281a13831199799401d8", func := "bazaar/bazaarlaw20.TradeDeal", spec := "tradeDeal", unfollowed := true, recurses := true, apart := false, narrowed := true }
def TradeDealUptoSaid : Prop := tradeDealUptoRow.holds Try.pinned (OpenSpec.upto tradeDealSpec)

/-- 'bazaarlaw20.TradeOwn', WHERE WHAT IT READS IS OF BULK AT MOST 1048576: true; the input reads as it did. -/
def tradeOwnUptoRow : OpenClaim := { program := "ytiafhgcnjgpeaaa", sum := "bf585db5769ea200055b724eb0fb970e5b14127efc2a281a13831199799401d8", func := "bazaar/bazaarlaw20.TradeOwn", spec := "tradeOwn", unfollowed := true, recurses := true, apart := false, narrowed := true }
def TradeOwnUptoSaid : Prop := tradeOwnUptoRow.holds Try.pinned (OpenSpec.upto tradeOwnSpec)

end Rows
end Go.Proofs.Ytiafhgcnjgpeaaa
