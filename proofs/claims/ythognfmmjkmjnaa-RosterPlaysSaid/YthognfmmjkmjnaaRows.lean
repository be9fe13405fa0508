/-
  No cell of these rows narrows 'for every input' (looked for: loops, veiled, ifaces, maps, wideKeys, modest, calm, conditions, laid).
  DERIVED. THE GIVEN ROWS OF THIS SEAT. 9 by the template 'for every input the law returns true; each argument reads behind the call as it read before'; 0 by the template 'total and deterministic' (their statements: YthognfmmjkmjnaaTotals.lean).
  GIVEN WITH THE SEED: the statements are not yours to turn. If you find one false, say at which input.
  Laid BY PROGRAM, IN A SANDBOX (cutbox-rows.mjs): the forced cells as the released guide's own fill.sh prints them over the translation e01cc1d84fd9a6d8… (all of the seat's roots in one cut). By AI agents, Wed Nov 11 2026. No macro, syntax, notation, axiom, sorry.
-/
import Derived.Test.YthognfmmjkmjnaaChecked
import GoSem.Claim
import GoSem.ClaimJoined
import GoSem.ClaimMapViews
import Derived.JoinedTies
import Derived.KernelRfl
namespace Go.Proofs.Ythognfmmjkmjnaa
/- THE CELL 'sum', in the pinned program and in every row, IS THE sha256 OF THE DUMP (.gsa) THAT YthognfmmjkmjnaaProg.lean LOADS. Nothing in Lean hashes anything: it is a label: what it is worth is what the hold of that sum in a sandbox is worth. -/
noncomputable def Try.pinned : Pinned := { name := "ythognfmmjkmjnaa", sum := "e01cc1d84fd9a6d87b30b641b14f23737fe55a73ae0747921074f170acb81cd9", checked := Try.checked }
namespace Rows
def none {H : Type} : Left H := { results := [], args := [] }

/-- 'paraventlaw18.RosterQuota': WHATEVER THE INPUT: true; the input reads as it did. -/
def rosterQuotaSpec : ChangeSpec := { name := "rosterQuota", fn := fun _ => fun
  | [d] => { results := [.lit (.bool true)], args := [d] }
  | _ => none }
def rosterQuotaRow : OpenClaim := { program := "ythognfmmjkmjnaa", sum := "e01cc1d84fd9a6d87b30b641b14f23737fe55a73ae0747921074f170acb81cd9", func := "paravent/paraventlaw18.RosterQuota", spec := "rosterQuota", unfollowed := true, recurses := true, apart := false }
def RosterQuotaSaid : Prop := rosterQuotaRow.holds Try.pinned (OpenSpec.ofChange rosterQuotaSpec)

/-- ITS FALSE NEIGHBOUR: 'it returns false'. Refute it at one input. -/
def rosterQuotaWrong : ChangeSpec := { name := "rosterQuota", fn := fun _ => fun
  | [d] => { results := [.lit (.bool false)], args := [d] }
  | _ => none }
def RosterQuotaWrongFalsely : Prop := rosterQuotaRow.holds Try.pinned (OpenSpec.ofChange rosterQuotaWrong)

/-- 'paraventlaw04.QueueOrder': WHATEVER THE INPUT: true; the input reads as it did. -/
def queueOrderSpec : ChangeSpec := { name := "queueOrder", fn := fun _ => fun
  | [d1, d2, d3] => { results := [.lit (.bool true)], args := [d1, d2, d3] }
  | _ => none }
def queueOrderRow : OpenClaim := { program := "ythognfmmjkmjnaa", sum := "e01cc1d84fd9a6d87b30b641b14f23737fe55a73ae0747921074f170acb81cd9", func := "paravent/paraventlaw04.QueueOrder", spec := "queueOrder", unfollowed := true, recurses := true, apart := false }
def QueueOrderSaid : Prop := queueOrderRow.holds Try.pinned (OpenSpec.ofChange queueOrderSpec)

/-- ITS FALSE NEIGHBOUR: 'it returns false'. Refute it at one input. -/
def queueOrderWrong : ChangeSpec := { name := "queueOrder", fn := fun _ => fun
  | [d1, d2, d3] => { results := [.lit (.bool false)], args := [d1, d2, d3] }
  | _ => none }
def QueueOrderWrongFalsely : Prop := queueOrderRow.holds Try.pinned (OpenSpec.ofChange queueOrderWrong)

/-- 'paraventlaw18.RosterApart': WHATEVER THE INPUT: true; the input reads as it did. -/
def rosterApartSpec : ChangeSpec := { name := "rosterApart", fn := fun _ => fun
  | [d1, d2] => { results := [.lit (.bool true)], args := [d1, d2] }
  | _ => none }
def rosterApartRow : OpenClaim := { program := "ythognfmmjkmjnaa", sum := "e01cc1d84fd9a6d87b30b641b14f23737fe55a73ae0747921074f170acb81cd9", func := "paravent/paraventlaw18.RosterApart", spec := "rosterApart", unfollowed := true, recurses := true, apart := false }
def RosterApartSaid : Prop := rosterApartRow.holds Try.pinned (OpenSpec.ofChange rosterApartSpec)

/-- ITS FALSE NEIGHBOUR: 'it returns false'. Refute it at one input. -/
def rosterApartWrong : ChangeSpec := { name := "rosterApart", fn := fun _ => fun
  | [d1, d2] => { results := [.lit (.bool false)], args := [d1, d2] }
  | _ => none }
def RosterApartWrongFalsely : Prop := rosterApartRow.holds Try.pinned (OpenSpec.ofChange rosterApartWrong)

/-- 'paraventlaw04.QueuePlays': WHATEVER THE INPUT: true; the input reads as it did. -/
def queuePlaysSpec : ChangeSpec := { name := "queuePlays", fn := fun _ => fun
  | [d] => { results := [.lit (.bool true)], args := [d] }
  | _ => none }
def queuePlaysRow : OpenClaim := { program := "ythognfmmjkmjnaa", sum := "e01cc1d84fd9a6d87b30b641b14f23737fe55a73ae0747921074f170acb81cd9", func := "paravent/paraventlaw04.QueuePlays", spec := "queuePlays", unfollowed := true, recurses := true, apart := false }
def QueuePlaysSaid : Prop := queuePlaysRow.holds Try.pinned (OpenSpec.ofChange queuePlaysSpec)

/-- ITS FALSE NEIGHBOUR: 'it returns false'. Refute it at one input. -/
def queuePlaysWrong : ChangeSpec := { name := "queuePlays", fn := fun _ => fun
  | [d] => { results := [.lit (.bool false)], args := [d] }
  | _ => none }
def QueuePlaysWrongFalsely : Prop := queuePlaysRow.holds Try.pinned (OpenSpec.ofChange queuePlaysWrong)

/-- 'paraventlaw04.QueueNil': WHATEVER THE INPUT: true; the input reads as it did. -/
def queueNilSpec : ChangeSpec := { name := "queueNil", fn := fun _ => fun
  | [d1, d2] => { results := [.lit (.bool true)], args := [d1, d2] }
  | _ => none }
def queueNilRow : OpenClaim := { program := "ythognfmmjkmjnaa", sum := "e01cc1d84fd9a6d87b30b641b14f23737fe55a73ae0747921074f170acb81cd9", func := "paravent/paraventlaw04.QueueNil", spec := "queueNil", unfollowed := true, recurses := true, apart := false }
def QueueNilSaid : Prop := queueNilRow.holds Try.pinned (OpenSpec.ofChange queueNilSpec)

/-- ITS FALSE NEIGHBOUR: 'it returns false'. Refute it at one input. -/
def queueNilWrong : ChangeSpec := { name := "queueNil", fn := fun _ => fun
  | [d1, d2] => { results := [.lit (.bool false)], args := [d1, d2] }
  | _ => none }
def QueueNilWrongFalsely : Prop := queueNilRow.holds Try.pinned (OpenSpec.ofChange queueNilWrong)

/-- 'paraventlaw04.QueueSorts': WHATEVER THE INPUT: true; the input reads as it did. -/
def queueSortsSpec : ChangeSpec := { name := "queueSorts", fn := fun _ => fun
  | [d] => { results := [.lit (.bool true)], args := [d] }
  | _ => none }
def queueSortsRow : OpenClaim := { program := "ythognfmmjkmjnaa", sum := "e01cc1d84fd9a6d87b30b641b14f23737fe55a73ae0747921074f170acb81cd9", func := "paravent/paraventlaw04.QueueSorts", spec := "queueSorts", unfollowed := true, recurses := true, apart := false }
def QueueSortsSaid : Prop := queueSortsRow.holds Try.pinned (OpenSpec.ofChange queueSortsSpec)

/-- ITS FALSE NEIGHBOUR: 'it returns false'. Refute it at one input. -/
def queueSortsWrong : ChangeSpec := { name := "queueSorts", fn := fun _ => fun
  | [d] => { results := [.lit (.bool false)], args := [d] }
  | _ => none }
def QueueSortsWrongFalsely : Prop := queueSortsRow.holds Try.pinned (OpenSpec.ofChange queueSortsWrong)

/-- 'paraventlaw04.QueueTurned': WHATEVER THE INPUT: true; the input reads as it did. -/
def queueTurnedSpec : ChangeSpec := { name := "queueTurned", fn := fun _ => fun
  | [d1, d2] => { results := [.lit (.bool true)], args := [d1, d2] }
  | _ => none }
def queueTurnedRow : OpenClaim := { program := "ythognfmmjkmjnaa", sum := "e01cc1d84fd9a6d87b30b641b14f23737fe55a73ae0747921074f170acb81cd9", func := "paravent/paraventlaw04.QueueTurned", spec := "queueTurned", unfollowed := true, recurses := true, apart := false }
def QueueTurnedSaid : Prop := queueTurnedRow.holds Try.pinned (OpenSpec.ofChange queueTurnedSpec)

/-- ITS FALSE NEIGHBOUR: 'it returns false'. Refute it at one input. -/
def queueTurnedWrong : ChangeSpec := { name := "queueTurned", fn := fun _ => fun
  | [d1, d2] => { results := [.lit (.bool false)], args := [d1, d2] }
  | _ => none }
def QueueTurnedWrongFalsely : Prop := queueTurnedRow.holds Try.pinned (OpenSpec.ofChange queueTurnedWrong)

/-- 'paraventlaw18.RosterPlays': WHATEVER THE INPUT: true; the input reads as it did. -/
def rosterPlaysSpec : ChangeSpec := { name := "rosterPlays", fn := fun _ => fun
  | [d] => { results := [.lit (.bool true)], args := [d] }
  | _ => none }
def rosterPlaysRow : OpenClaim := { program := "ythognfmmjkmjnaa", sum := "e01cc1d84fd9a6d87b30b641b14f23737fe55a73ae0747921074f170acb81cd9", func := "paravent/paraventlaw18.RosterPlays", spec := "rosterPlays", unfollowed := true, recurses := true, apart := false }
def RosterPlaysSaid : Prop := rosterPlaysRow.holds Try.pinned (OpenSpec.ofChange rosterPlaysSpec)

/-- ITS FALSE NEIGHBOUR: 'it returns false'. Refute it at one input. -/
def rosterPlaysWrong : ChangeSpec := { name := "rosterPlays", fn := fun _ => fun
  | [d] => { results := [.lit (.bool false)], args := [d] }
  | _ => none }
def RosterPlaysWrongFalsely : Prop := rosterPlaysRow.holds Try.pinned (OpenSpec.ofChange rosterPlaysWrong)

/-- 'paraventlaw18.RosterNil': WHATEVER THE INPUT: true; the input reads as it did. -/
def rosterNilSpec : ChangeSpec := { name := "rosterNil", fn := fun _ => fun
  | [d] => { results := [.lit (.bool true)], args := [d] }
  | _ => none }
def rosterNilRow : OpenClaim := { program := "ythognfmmjkmjnaa", sum := "e01cc1d84fd9a6d87b30b641b14f23737fe55a73ae0747921074f170acb81cd9", func := "paravent/paraventlaw18.RosterNil", spec := "rosterNil", unfollowed := true, recurses := true, apart := false }
def RosterNilSaid : Prop := rosterNilRow.holds Try.pinned (OpenSpec.ofChange rosterNilSpec)

/-- ITS FALSE NEIGHBOUR: 'it returns false'. Refute it at one input. -/
def rosterNilWrong : ChangeSpec := { name := "rosterNil", fn := fun _ => fun
  | [d] => { results := [.lit (.bool false)], args := [d] }
  | _ => none }
def RosterNilWrongFalsely : Prop := rosterNilRow.holds Try.pinned (OpenSpec.ofChange rosterNilWrong)

/- THE SECOND FORM. 'bulk': how many values and letters a reading holds, each counted each time it is reached (what is shared counts as often as it is met; a slice's spare places count too). A statement '..UptoSaid' is the law's where the arguments, and the package variables that the reading takes, are together of bulk at most 1048576: NARROWER than '..Said'. Prove '..Said' where nothing that the law and all that it calls make is longer than what came in: it says more and counts as full. Else prove '..UptoSaid'. A law counts once. -/
mutual
def uptoBulk {H : Type} : DataW H → Nat
  | .lit (.string bytes) => bytes.length + 1
  | .lit _ => 1
  | .nil => 1
  | .ptr d => uptoBulk d + 1
  | .slice elems spare => uptoBulkAll elems + uptoBulkAll spare + 1
  | .agg parts => uptoBulkAll parts + 1
  | .iface _ d => uptoBulk d + 1
  | .map entries => uptoBulkEntries entries + 1
  | .held _ => 1
def uptoBulkAll {H : Type} : List (DataW H) → Nat
  | [] => 0
  | d :: r => uptoBulk d + uptoBulkAll r
def uptoBulkEntries {H : Type} : List (Lit × DataW H) → Nat
  | [] => 0
  | x :: r => uptoBulkEntry x + uptoBulkEntries r
def uptoBulkEntry {H : Type} : Lit × DataW H → Nat
  | (.string bytes, d) => bytes.length + uptoBulk d + 1
  | (_, d) => uptoBulk d + 1
 end
def uptoSmall : (H : Type) → List (DataW H) → Bool := fun _ ds => decide (uptoBulkAll ds ≤ 1048576)
def OpenSpec.upto (s : _root_.Go.ChangeSpec) : _root_.Go.OpenSpec := { _root_.Go.OpenSpec.ofChange s with cond := some uptoSmall }

/-- 'paraventlaw18.RosterQuota', WHERE WHAT IT READS IS OF BULK AT MOST 1048576: true; the input reads as it did. -/
def rosterQuotaUptoRow : OpenClaim := { program := "ythognfmmjkmjnaa", sum := "e01cc1d84fd9a6d87b30b641b14f23737fe55a73ae0747921074f170acb81cd9", func := "paravent/paraventlaw18.RosterQuota", spec := "rosterQuota", unfollowed := true, recurses := true, apart := false, narrowed := true }
def RosterQuotaUptoSaid : Prop := rosterQuotaUptoRow.holds Try.pinned (OpenSpec.upto rosterQuotaSpec)

/-- 'paraventlaw04.QueueOrder', WHERE WHAT IT READS IS OF BULK AT MOST 1048576: true; the input reads as it did. -/
def queueOrderUptoRow : OpenClaim := { program := "ythognfmmjkmjnaa", sum := "e01cc1d84fd9a6d87b30b641b14f23737fe55a73ae0747921074f170acb81cd9", func := "paravent/paraventlaw04.QueueOrder", spec := "queueOrder", unfollowed := true, recurses := true, apart := false, narrowed := true }
def QueueOrderUptoSaid : Prop := queueOrderUptoRow.holds Try.pinned (OpenSpec.upto queueOrderSpec)

/-- 'paraventlaw18.RosterApart', WHERE WHAT IT READS IS OF BULK AT MOST 1048576: true; the input reads as it did. -/
def rosterApartUptoRow : OpenClaim := { program := "ythognfmmjkmjnaa", sum := "e01cc1d84fd9a6d87b30b641b14f23737fe55a73ae0747921074f170acb81cd9", func := "paravent/paraventlaw18.RosterApart", spec := "rosterApart", unfollowed := true, recurses := true, apart := false, narrowed := true }
def RosterApartUptoSaid : Prop := rosterApartUptoRow.holds Try.pinned (OpenSpec.upto rosterApartSpec)

/-- 'paraventlaw04.QueuePlays', WHERE WHAT IT READS IS OF BULK AT MOST 1048576: true; the input reads as it did. -/
def queuePlaysUptoRow : OpenClaim := { program := "ythognfmmjkmjnaa", sum := "e01cc1d84fd9a6d87b30b641b14f23737fe55a73ae0747921074f170acb81cd9", func := "paravent/paraventlaw04.QueuePlays", spec := "queuePlays", unfollowed := true, recurses := true, apart := false, narrowed := true }
def QueuePlaysUptoSaid : Prop := queuePlaysUptoRow.holds Try.pinned (OpenSpec.upto queuePlaysSpec)

/-- 'paraventlaw04.QueueNil', WHERE WHAT IT READS IS OF BULK AT MOST 1048576: true; the input reads as it did. -/
def queueNilUptoRow : OpenClaim := { program := "ythognfmmjkmjnaa", sum := "e01cc1d84fd9a6d87b30b641b14f23737fe55a73ae0747921074f170acb81cd9", func := "paravent/paraventlaw04.QueueNil", spec := "queueNil", unfollowed := true, recurses := true, apart := false, narrowed := true }
def QueueNilUptoSaid : Prop := queueNilUptoRow.holds Try.pinned (OpenSpec.upto queueNilSpec)

/-- 'paraventlaw04.QueueSorts', WHERE WHAT IT READS IS OF BULK AT MOST 1048576: true; the input reads as it did. -/
def queueSortsUptoRow : OpenClaim := { program := "ythognfmmjkmjnaa", sum := "e01cc1d84fd9a6d87b30b641b14f23737fe55a73ae0747921074f170acb81cd9", func := "paravent/paraventlaw04.QueueSorts", spec := "queueSorts", unfollowed := true, recurses := true, apart := false, narrowed := true }
def QueueSortsUptoSaid : Prop := queueSortsUptoRow.holds Try.pinned (OpenSpec.upto queueSortsSpec)

/-- 'paraventlaw04.QueueTurned', WHERE WHAT IT READS IS OF BULK AT MOST 1048576: true; the input reads as it did. -/
def queueTurnedUptoRow : OpenClaim := { program := "ythognfmmjkmjnaa", sum := "e01cc1d84fd9a6d87b30b641b14f23737fe55a73ae0747921074f170acb81cd9", func := "paravent/paraventlaw04.QueueTurned", spec := "queueTurned", unfollowed := true, recurses := true, apart := false, narrowed := true }
def QueueTurnedUptoSaid : Prop := queueTurnedUptoRow.holds Try.pinned (OpenSpec.upto queueTurnedSpec)

/-- 'paraventlaw18.RosterPlays', WHERE WHAT IT READS IS OF BULK AT MOST 1048576: true; the input reads as it did. -/
def rosterPlaysUptoRow : OpenClaim := { program := "ythognfmmjkmjnaa", sum := "e01cc1d84fd9a6d87b30b641b14f23737fe55a73ae0747921074f170acb81cd9", func := "paravent/paraventlaw18.RosterPlays", spec := "rosterPlays", unfollowed := true, recurses := true, apart := false, narrowed := true }
def RosterPlaysUptoSaid : Prop := rosterPlaysUptoRow.holds Try.pinned (OpenSpec.upto rosterPlaysSpec)

/-- 'paraventlaw18.RosterNil', WHERE WHAT IT READS IS OF BULK AT MOST 1048576: true; the input reads as it did. -/
def rosterNilUptoRow : OpenClaim := { program := "ythognfmmjkmjnaa", sum := "e01cc1d84fd9a6d87b30b641b14f23737fe55a73ae0747921074f170acb81cd9", func := "paravent/paraventlaw18.RosterNil", spec := "rosterNil", unfollowed := true, recurses := true, apart := false, narrowed := true }
def RosterNilUptoSaid : Prop := rosterNilUptoRow.holds Try.pinned (OpenSpec.upto rosterNilSpec)

end Rows
end Go.Proofs.Ythognfmmjkmjnaa
