/-
  No cell of these rows narrows 'for every input' (looked for: loops, veiled, ifaces, maps, wideKeys, modest, calm, conditions, laid).
  DERIVED. THE GIVEN ROWS OF THIS SEAT. 4 by the template 'for every input the law returns true; each argument reads behind the call as it read before'; 0 by the template 'total and deterministic' (their statements: YtdeemchhbgomjaaTotals.lean).
  GIVEN WITH THE SEED: the statements are not yours to turn. If you find one false, say at which input.
  Laid BY PROGRAM, IN A SANDBOX (cutbox-rows.mjs): the forced cells as the released guide's own fill.sh prints them over the translation 53495e46cba205fd… (all of the seat's roots in one cut). By AI agents, Wed Nov 11 2026. No macro, syntax, notation, axiom, sorry.
-/
import Derived.Test.YtdeemchhbgomjaaChecked
import GoSem.Claim
import GoSem.ClaimJoined
import GoSem.ClaimMapViews
import Derived.JoinedTies
import Derived.KernelRfl
namespace Go.Proofs.Ytdeemchhbgomjaa
/- THE CELL 'sum', in the pinned program and in every row, IS THE sha256 OF THE DUMP (.gsa) THAT YtdeemchhbgomjaaProg.lean LOADS. Nothing in Lean hashes anything: it is a label: what it is worth is what the hold of that sum in a sandbox is worth. -/
noncomputable def Try.pinned : Pinned := { name := "ytdeemchhbgomjaa", sum := "53495e46cba205fd6e824bbe9651cdd6ed560d347b6e24b8829cbd0211ea430a", checked := Try.checked }
namespace Rows
def none {H : Type} : Left H := { results := [], args := [] }

/-- 'paraventlaw07.CifquadUnder': WHATEVER THE INPUT: true; the input reads as it did. -/
def cifquadUnderSpec : ChangeSpec := { name := "cifquadUnder", fn := fun _ => fun
  | [d1, d2] => { results := [.lit (.bool true)], args := [d1, d2] }
  | _ => none }
def cifquadUnderRow : OpenClaim := { program := "ytdeemchhbgomjaa", sum := "53495e46cba205fd6e824bbe9651cdd6ed560d347b6e24b8829cbd0211ea430a", func := "paravent/paraventlaw07.CifquadUnder", spec := "cifquadUnder", inPlace := ["internal/reflectlite.ValueOf", "internal/reflectlite.Swapper", "(internal/reflectlite.Value).Len"], unfollowed := true, recurses := true, apart := false }
def CifquadUnderSaid : Prop := cifquadUnderRow.holds Try.pinned (OpenSpec.ofChange cifquadUnderSpec)

/-- ITS FALSE NEIGHBOUR: 'it returns false'. Refute it at one input. -/
def cifquadUnderWrong : ChangeSpec := { name := "cifquadUnder", fn := fun _ => fun
  | [d1, d2] => { results := [.lit (.bool false)], args := [d1, d2] }
  | _ => none }
def CifquadUnderWrongFalsely : Prop := cifquadUnderRow.holds Try.pinned (OpenSpec.ofChange cifquadUnderWrong)

/-- 'paraventlaw07.CifquadTurned': WHATEVER THE INPUT: true; the input reads as it did. -/
def cifquadTurnedSpec : ChangeSpec := { name := "cifquadTurned", fn := fun _ => fun
  | [d1, d2] => { results := [.lit (.bool true)], args := [d1, d2] }
  | _ => none }
def cifquadTurnedRow : OpenClaim := { program := "ytdeemchhbgomjaa", sum := "53495e46cba205fd6e824bbe9651cdd6ed560d347b6e24b8829cbd0211ea430a", func := "paravent/paraventlaw07.CifquadTurned", spec := "cifquadTurned", inPlace := ["internal/reflectlite.ValueOf", "internal/reflectlite.Swapper", "(internal/reflectlite.Value).Len"], unfollowed := true, recurses := true, apart := false }
def CifquadTurnedSaid : Prop := cifquadTurnedRow.holds Try.pinned (OpenSpec.ofChange cifquadTurnedSpec)

/-- ITS FALSE NEIGHBOUR: 'it returns false'. Refute it at one input. -/
def cifquadTurnedWrong : ChangeSpec := { name := "cifquadTurned", fn := fun _ => fun
  | [d1, d2] => { results := [.lit (.bool false)], args := [d1, d2] }
  | _ => none }
def CifquadTurnedWrongFalsely : Prop := cifquadTurnedRow.holds Try.pinned (OpenSpec.ofChange cifquadTurnedWrong)

/-- 'paraventlaw07.CifquadMeets': WHATEVER THE INPUT: true; the input reads as it did. -/
def cifquadMeetsSpec : ChangeSpec := { name := "cifquadMeets", fn := fun _ => fun
  | [d1, d2] => { results := [.lit (.bool true)], args := [d1, d2] }
  | _ => none }
def cifquadMeetsRow : OpenClaim := { program := "ytdeemchhbgomjaa", sum := "53495e46cba205fd6e824bbe9651cdd6ed560d347b6e24b8829cbd0211ea430a", func := "paravent/paraventlaw07.CifquadMeets", spec := "cifquadMeets", inPlace := ["internal/reflectlite.ValueOf", "internal/reflectlite.Swapper", "(internal/reflectlite.Value).Len"], unfollowed := true, recurses := true, apart := false }
def CifquadMeetsSaid : Prop := cifquadMeetsRow.holds Try.pinned (OpenSpec.ofChange cifquadMeetsSpec)

/-- ITS FALSE NEIGHBOUR: 'it returns false'. Refute it at one input. -/
def cifquadMeetsWrong : ChangeSpec := { name := "cifquadMeets", fn := fun _ => fun
  | [d1, d2] => { results := [.lit (.bool false)], args := [d1, d2] }
  | _ => none }
def CifquadMeetsWrongFalsely : Prop := cifquadMeetsRow.holds Try.pinned (OpenSpec.ofChange cifquadMeetsWrong)

/-- 'paraventlaw07.CifquadPlays': WHATEVER THE INPUT: true; the input reads as it did. -/
def cifquadPlaysSpec : ChangeSpec := { name := "cifquadPlays", fn := fun _ => fun
  | [d] => { results := [.lit (.bool true)], args := [d] }
  | _ => none }
def cifquadPlaysRow : OpenClaim := { program := "ytdeemchhbgomjaa", sum := "53495e46cba205fd6e824bbe9651cdd6ed560d347b6e24b8829cbd0211ea430a", func := "paravent/paraventlaw07.CifquadPlays", spec := "cifquadPlays", inPlace := ["internal/reflectlite.ValueOf", "internal/reflectlite.Swapper", "(internal/reflectlite.Value).Len"], unfollowed := true, recurses := true, apart := false }
def CifquadPlaysSaid : Prop := cifquadPlaysRow.holds Try.pinned (OpenSpec.ofChange cifquadPlaysSpec)

/-- ITS FALSE NEIGHBOUR: 'it returns false'. Refute it at one input. -/
def cifquadPlaysWrong : ChangeSpec := { name := "cifquadPlays", fn := fun _ => fun
  | [d] => { results := [.lit (.bool false)], args := [d] }
  | _ => none }
def CifquadPlaysWrongFalsely : Prop := cifquadPlaysRow.holds Try.pinned (OpenSpec.ofChange cifquadPlaysWrong)

/- THE SECOND FORM. 'bulk': how many values and letters a reading holds, each counted each time it is reached (what is shared counts as often as it is met; a slice's spare places count too). A statement '..UptoSaid' is the law's where the arguments, and the package variables that the reading takes, are together of bulk at most 1048576: NARROWER than '..Said'. Prove '..Said' where nothing that the law and all that it calls make is longer than what came in: it says more and counts as full. Else prove '..UptoSaid'. A law counts once. -/
mutual
def uptoBulk {H : Type} : DataW H → Nat
  | .lit (.string bytes) => bytes.length + 1
  | .lit _ => 1
  | .nil => 1
  | .ptr d => uptoBulk d + 1
  | .slice elems spare => uptoBulkAll elems + uptoBulkAll spare + 1
  | .agg parts => uptoBulkAll parts + 1
  | .iface _ d => uptoBulk d + 1
  | .map entries => uptoBulkEntries entries + 1
  | .held _ => 1
def uptoBulkAll {H : Type} : List (DataW H) → Nat
  | [] => 0
  | d :: r => uptoBulk d + uptoBulkAll r
def uptoBulkEntries {H : Type} : List (Lit × DataW H) → Nat
  | [] => 0
  | x :: r => uptoBulkEntry x + uptoBulkEntries r
def uptoBulkEntry {H : Type} : Lit × DataW H → Nat
  | (.string bytes, d) => bytes.length + uptoBulk d + 1
  | (_, d) => uptoBulk d + 1
 end
def uptoSmall : (H : Type) → List (DataW H) → Bool := fun _ ds => decide (uptoBulkAll ds ≤ 1048576)
def OpenSpec.upto (s : _root_.Go.ChangeSpec) : _root_.Go.OpenSpec := { _root_.Go.OpenSpec.ofChange s with cond := some uptoSmall }

/-- 'paraventlaw07.CifquadUnder', WHERE WHAT IT READS IS OF BULK AT MOST 1048576: true; the input reads as it did. -/
def cifquadUnderUptoRow : OpenClaim := { program := "ytdeemchhbgomjaa", sum := "53495e46cba205fd6e824bbe9651cdd6ed560d347b6e24b8829cbd0211ea430a", func := "paravent/paraventlaw07.CifquadUnder", spec := "cifquadUnder", inPlace := ["internal/reflectlite.ValueOf", "internal/reflectlite.Swapper", "(internal/reflectlite.Value).Len"], unfollowed := true, recurses := true, apart := false, narrowed := true }
def CifquadUnderUptoSaid : Prop := cifquadUnderUptoRow.holds Try.pinned (OpenSpec.upto cifquadUnderSpec)

/-- 'paraventlaw07.CifquadTurned', WHERE WHAT IT READS IS OF BULK AT MOST 1048576: true; the input reads as it did. -/
def cifquadTurnedUptoRow : OpenClaim := { program := "ytdeemchhbgomjaa", sum := "53495e46cba205fd6e824bbe9651cdd6ed560d347b6e24b8829cbd0211ea430a", func := "paravent/paraventlaw07.CifquadTurned", spec := "cifquadTurned", inPlace := ["internal/reflectlite.ValueOf", "internal/reflectlite.Swapper", "(internal/reflectlite.Value).Len"], unfollowed := true, recurses := true, apart := false, narrowed := true }
def CifquadTurnedUptoSaid : Prop := cifquadTurnedUptoRow.holds Try.pinned (OpenSpec.upto cifquadTurnedSpec)

/-- 'paraventlaw07.CifquadMeets', WHERE WHAT IT READS IS OF BULK AT MOST 1048576: true; the input reads as it did. -/
def cifquadMeetsUptoRow : OpenClaim := { program := "ytdeemchhbgomjaa", sum := "53495e46cba205fd6e824bbe9651cdd6ed560d347b6e24b8829cbd0211ea430a", func := "paravent/paraventlaw07.CifquadMeets", spec := "cifquadMeets", inPlace := ["internal/reflectlite.ValueOf", "internal/reflectlite.Swapper", "(internal/reflectlite.Value).Len"], unfollowed := true, recurses := true, apart := false, narrowed := true }
def CifquadMeetsUptoSaid : Prop := cifquadMeetsUptoRow.holds Try.pinned (OpenSpec.upto cifquadMeetsSpec)

/-- 'paraventlaw07.CifquadPlays', WHERE WHAT IT READS IS OF BULK AT MOST 1048576: true; the input reads as it did. -/
def cifquadPlaysUptoRow : OpenClaim := { program := "ytdeemchhbgomjaa", sum := "53495e46cba205fd6e824bbe9651cdd6ed560d347b6e24b8829cbd0211ea430a", func := "paravent/paraventlaw07.CifquadPlays", spec := "cifquadPlays", inPlace := ["internal/reflectlite.ValueOf", "internal/reflectlite.Swapper", "(internal/reflectlite.Value).Len"], unfollowed := true, recurses := true, apart := false, narrowed := true }
def CifquadPlaysUptoSaid : Prop := cifquadPlaysUptoRow.holds Try.pinned (OpenSpec.upto cifquadPlaysSpec)

end Rows
end Go.Proofs.Ytdeemchhbgomjaa
