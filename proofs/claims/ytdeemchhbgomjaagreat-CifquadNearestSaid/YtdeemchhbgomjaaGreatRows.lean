/-
  No cell of these rows narrows 'for every input' (looked for: loops, veiled, ifaces, maps, wideKeys, modest, calm, conditions, laid).
  DERIVED. THE GIVEN ROWS OF THIS SEAT. 3 by the template 'for every input the law returns true; each argument reads behind the call as it read before'; 0 by the template 'total and deterministic' (their statements: YtdeemchhbgomjaaGreatTotals.lean).
  GIVEN WITH THE SEED: the statements are not yours to turn. If you find one false, say at which input.
  Laid BY PROGRAM, IN A SANDBOX (cutbox-rows.mjs): the forced cells as the released guide's own fill.sh prints them over the translation 1bff355ffbaa0a26… (all of the seat's roots in one cut). By AI agents, Wed Nov 11 2026. No macro, syntax, notation, axiom, sorry.
-/
import Derived.Test.YtdeemchhbgomjaaGreatChecked
import GoSem.Claim
import GoSem.ClaimJoined
import GoSem.ClaimMapViews
import Derived.JoinedTies
import Derived.KernelRfl
namespace Go.Proofs.YtdeemchhbgomjaaGreat
/- THE CELL 'sum', in the pinned program and in every row, IS THE sha256 OF THE DUMP (.gsa) THAT YtdeemchhbgomjaaGreatProg.lean LOADS. Nothing in Lean hashes anything: it is a label: what it is worth is what the hold of that sum in a sandbox is worth. -/
noncomputable def Tryz.pinned : Pinned := { name := "ytdeemchhbgomjaagreat", sum := "1bff355ffbaa0a26d7f1e336f440ffb30313d4ad77c70945c8c6ef799cf3402b", checked := Tryz.checked }
namespace Rows
def none {H : Type} : Left H := { results := [], args := [] }

/-- 'paraventlaw07.CifquadNearest': WHATEVER THE INPUT: true; the input reads as it did. -/
def cifquadNearestSpec : ChangeSpec := { name := "cifquadNearest", fn := fun _ => fun
  | [d1, d2, d3, d4, d5] => { results := [.lit (.bool true)], args := [d1, d2, d3, d4, d5] }
  | _ => none }
def cifquadNearestRow : OpenClaim := { program := "ytdeemchhbgomjaagreat", sum := "1bff355ffbaa0a26d7f1e336f440ffb30313d4ad77c70945c8c6ef799cf3402b", func := "paravent/paraventlaw07.CifquadNearest", spec := "cifquadNearest", inPlace := ["internal/reflectlite.ValueOf", "internal/reflectlite.Swapper", "(internal/reflectlite.Value).Len"], unfollowed := true, recurses := true, apart := false }
def CifquadNearestSaid : Prop := cifquadNearestRow.holds Tryz.pinned (OpenSpec.ofChange cifquadNearestSpec)

/-- ITS FALSE NEIGHBOUR: 'it returns false'. Refute it at one input. -/
def cifquadNearestWrong : ChangeSpec := { name := "cifquadNearest", fn := fun _ => fun
  | [d1, d2, d3, d4, d5] => { results := [.lit (.bool false)], args := [d1, d2, d3, d4, d5] }
  | _ => none }
def CifquadNearestWrongFalsely : Prop := cifquadNearestRow.holds Tryz.pinned (OpenSpec.ofChange cifquadNearestWrong)

/-- 'paraventlaw07.CifquadLevel': WHATEVER THE INPUT: true; the input reads as it did. -/
def cifquadLevelSpec : ChangeSpec := { name := "cifquadLevel", fn := fun _ => fun
  | [d1, d2] => { results := [.lit (.bool true)], args := [d1, d2] }
  | _ => none }
def cifquadLevelRow : OpenClaim := { program := "ytdeemchhbgomjaagreat", sum := "1bff355ffbaa0a26d7f1e336f440ffb30313d4ad77c70945c8c6ef799cf3402b", func := "paravent/paraventlaw07.CifquadLevel", spec := "cifquadLevel", inPlace := ["internal/reflectlite.ValueOf", "internal/reflectlite.Swapper", "(internal/reflectlite.Value).Len"], unfollowed := true, recurses := true, apart := false }
def CifquadLevelSaid : Prop := cifquadLevelRow.holds Tryz.pinned (OpenSpec.ofChange cifquadLevelSpec)

/-- ITS FALSE NEIGHBOUR: 'it returns false'. Refute it at one input. -/
def cifquadLevelWrong : ChangeSpec := { name := "cifquadLevel", fn := fun _ => fun
  | [d1, d2] => { results := [.lit (.bool false)], args := [d1, d2] }
  | _ => none }
def CifquadLevelWrongFalsely : Prop := cifquadLevelRow.holds Tryz.pinned (OpenSpec.ofChange cifquadLevelWrong)

/-- 'paraventlaw07.CifquadNil': WHATEVER THE INPUT: true; the input reads as it did. -/
def cifquadNilSpec : ChangeSpec := { name := "cifquadNil", fn := fun _ => fun
  | [d1, d2, d3] => { results := [.lit (.bool true)], args := [d1, d2, d3] }
  | _ => none }
def cifquadNilRow : OpenClaim := { program := "ytdeemchhbgomjaagreat", sum := "1bff355ffbaa0a26d7f1e336f440ffb30313d4ad77c70945c8c6ef799cf3402b", func := "paravent/paraventlaw07.CifquadNil", spec := "cifquadNil", inPlace := ["internal/reflectlite.ValueOf", "internal/reflectlite.Swapper", "(internal/reflectlite.Value).Len"], unfollowed := true, recurses := true, apart := false }
def CifquadNilSaid : Prop := cifquadNilRow.holds Tryz.pinned (OpenSpec.ofChange cifquadNilSpec)

/-- ITS FALSE NEIGHBOUR: 'it returns false'. Refute it at one input. -/
def cifquadNilWrong : ChangeSpec := { name := "cifquadNil", fn := fun _ => fun
  | [d1, d2, d3] => { results := [.lit (.bool false)], args := [d1, d2, d3] }
  | _ => none }
def CifquadNilWrongFalsely : Prop := cifquadNilRow.holds Tryz.pinned (OpenSpec.ofChange cifquadNilWrong)

/- THE SECOND FORM. 'bulk': how many values and letters a reading holds, each counted each time it is reached (what is shared counts as often as it is met; a slice's spare places count too). A statement '..UptoSaid' is the law's where the arguments, and the package variables that the reading takes, are together of bulk at most 1048576: NARROWER than '..Said'. Prove '..Said' where nothing that the law and all that it calls make is longer than what came in: it says more and counts as full. Else prove '..UptoSaid'. A law counts once. -/
mutual
def uptoBulk {H : Type} : DataW H → Nat
  | .lit (.string bytes) => bytes.length + 1
  | .lit _ => 1
  | .nil => 1
  | .ptr d => uptoBulk d + 1
  | .slice elems spare => uptoBulkAll elems + uptoBulkAll spare + 1
  | .agg parts => uptoBulkAll parts + 1
  | .iface _ d => uptoBulk d + 1
  | .map entries => uptoBulkEntries entries + 1
  | .held _ => 1
def uptoBulkAll {H : Type} : List (DataW H) → Nat
  | [] => 0
  | d :: r => uptoBulk d + uptoBulkAll r
def uptoBulkEntries {H : Type} : List (Lit × DataW H) → Nat
  | [] => 0
  | x :: r => uptoBulkEntry x + uptoBulkEntries r
def uptoBulkEntry {H : Type} : Lit × DataW H → Nat
  | (.string bytes, d) => bytes.length + uptoBulk d + 1
  | (_, d) => uptoBulk d + 1
 end
def uptoSmall : (H : Type) → List (DataW H) → Bool := fun _ ds => decide (uptoBulkAll ds ≤ 1048576)
def OpenSpec.upto (s : _root_.Go.ChangeSpec) : _root_.Go.OpenSpec := { _root_.Go.OpenSpec.ofChange s with cond := some uptoSmall }

/-- 'paraventlaw07.CifquadNearest', WHERE WHAT IT READS IS OF BULK AT MOST 1048576: true; the input reads as it did. -/
def cifquadNearestUptoRow : OpenClaim := { program := "ytdeemchhbgomjaagreat", sum := "1bff355ffbaa0a26d7f1e336f440ffb30313d4ad77c70945c8c6ef799cf3402b", func := "paravent/paraventlaw07.CifquadNearest", spec := "cifquadNearest", inPlace := ["internal/reflectlite.ValueOf", "internal/reflectlite.Swapper", "(internal/reflectlite.Value).Len"], unfollowed := true, recurses := true, apart := false, narrowed := true }
def CifquadNearestUptoSaid : Prop := cifquadNearestUptoRow.holds Tryz.pinned (OpenSpec.upto cifquadNearestSpec)

/-- 'paraventlaw07.CifquadLevel', WHERE WHAT IT READS IS OF BULK AT MOST 1048576: true; the input reads as it did. -/
def cifquadLevelUptoRow : OpenClaim := { program := "ytdeemchhbgomjaagreat", sum := "1bff355ffbaa0a26d7f1e336f440ffb30313d4ad77c70945c8c6ef799cf3402b", func := "paravent/paraventlaw07.CifquadLevel", spec := "cifquadLevel", inPlace := ["internal/reflectlite.ValueOf", "internal/reflectlite.Swapper", "(internal/reflectlite.Value).Len"], unfollowed := true, recurses := true, apart := false, narrowed := true }
def CifquadLevelUptoSaid : Prop := cifquadLevelUptoRow.holds Tryz.pinned (OpenSpec.upto cifquadLevelSpec)

/-- 'paraventlaw07.CifquadNil', WHERE WHAT IT READS IS OF BULK AT MOST 1048576: true; the input reads as it did. -/
def cifquadNilUptoRow : OpenClaim := { program := "ytdeemchhbgomjaagreat", sum := "1bff355ffbaa0a26d7f1e336f440ffb30313d4ad77c70945c8c6ef799cf3402b", func := "paravent/paraventlaw07.CifquadNil", spec := "cifquadNil", inPlace := ["internal/reflectlite.ValueOf", "internal/reflectlite.Swapper", "(internal/reflectlite.Value).Len"], unfollowed := true, recurses := true, apart := false, narrowed := true }
def CifquadNilUptoSaid : Prop := cifquadNilUptoRow.holds Tryz.pinned (OpenSpec.upto cifquadNilSpec)

end Rows
end Go.Proofs.YtdeemchhbgomjaaGreat
