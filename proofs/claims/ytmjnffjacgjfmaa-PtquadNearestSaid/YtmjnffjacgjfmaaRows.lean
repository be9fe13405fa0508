/-
  No cell of these rows narrows 'for every input' (looked for: loops, veiled, ifaces, maps, wideKeys, modest, calm, conditions, laid).
  DERIVED. THE GIVEN ROWS OF THIS SEAT. 6 by the template 'for every input the law returns true; each argument reads behind the call as it read before'; 0 by the template 'total and deterministic' (their statements: YtmjnffjacgjfmaaTotals.lean).
  GIVEN WITH THE SEED: the statements are not yours to turn. If you find one false, say at which input.
  Laid BY PROGRAM, IN A SANDBOX (cutbox-rows.mjs): the forced cells as the released guide's own fill.sh prints them over the translation 1b84d833667f0fb3… (all of the seat's roots in one cut). By AI agents, Wed Nov 11 2026. No macro, syntax, notation, axiom, sorry.
-/
import Derived.Test.YtmjnffjacgjfmaaChecked
import GoSem.Claim
import GoSem.ClaimJoined
import GoSem.ClaimMapViews
import Derived.JoinedTies
import Derived.KernelRfl
namespace Go.Proofs.Ytmjnffjacgjfmaa
/- THE CELL 'sum', in the pinned program and in every row, IS THE sha256 OF THE DUMP (.gsa) THAT YtmjnffjacgjfmaaProg.lean LOADS. Nothing in Lean hashes anything: it is a label: what it is worth is what the hold of that sum in a sandbox is worth. -/
noncomputable def Try.pinned : Pinned := { name := "ytmjnffjacgjfmaa", sum := "1b84d833667f0fb38de8ded9a3e1be9f9bc2a1c78b796089e33ebda94d008814", checked := Try.checked }
namespace Rows
def none {H : Type} : Left H := { results := [], args := [] }

/-- 'paraventlaw06.PtquadNearest': WHATEVER THE INPUT: true; the input reads as it did. -/
def ptquadNearestSpec : ChangeSpec := { name := "ptquadNearest", fn := fun _ => fun
  | [d1, d2, d3, d4] => { results := [.lit (.bool true)], args := [d1, d2, d3, d4] }
  | _ => none }
def ptquadNearestRow : OpenClaim := { program := "ytmjnffjacgjfmaa", sum := "1b84d833667f0fb38de8ded9a3e1be9f9bc2a1c78b796089e33ebda94d008814", func := "paravent/paraventlaw06.PtquadNearest", spec := "ptquadNearest", unfollowed := true, recurses := true, apart := false }
def PtquadNearestSaid : Prop := ptquadNearestRow.holds Try.pinned (OpenSpec.ofChange ptquadNearestSpec)

/-- ITS FALSE NEIGHBOUR: 'it returns false'. Refute it at one input. -/
def ptquadNearestWrong : ChangeSpec := { name := "ptquadNearest", fn := fun _ => fun
  | [d1, d2, d3, d4] => { results := [.lit (.bool false)], args := [d1, d2, d3, d4] }
  | _ => none }
def PtquadNearestWrongFalsely : Prop := ptquadNearestRow.holds Try.pinned (OpenSpec.ofChange ptquadNearestWrong)

/-- 'paraventlaw06.PtquadTurned': WHATEVER THE INPUT: true; the input reads as it did. -/
def ptquadTurnedSpec : ChangeSpec := { name := "ptquadTurned", fn := fun _ => fun
  | [d1, d2, d3] => { results := [.lit (.bool true)], args := [d1, d2, d3] }
  | _ => none }
def ptquadTurnedRow : OpenClaim := { program := "ytmjnffjacgjfmaa", sum := "1b84d833667f0fb38de8ded9a3e1be9f9bc2a1c78b796089e33ebda94d008814", func := "paravent/paraventlaw06.PtquadTurned", spec := "ptquadTurned", inPlace := ["internal/reflectlite.ValueOf", "internal/reflectlite.Swapper", "(internal/reflectlite.Value).Len"], unfollowed := true, recurses := true, apart := false }
def PtquadTurnedSaid : Prop := ptquadTurnedRow.holds Try.pinned (OpenSpec.ofChange ptquadTurnedSpec)

/-- ITS FALSE NEIGHBOUR: 'it returns false'. Refute it at one input. -/
def ptquadTurnedWrong : ChangeSpec := { name := "ptquadTurned", fn := fun _ => fun
  | [d1, d2, d3] => { results := [.lit (.bool false)], args := [d1, d2, d3] }
  | _ => none }
def PtquadTurnedWrongFalsely : Prop := ptquadTurnedRow.holds Try.pinned (OpenSpec.ofChange ptquadTurnedWrong)

/-- 'paraventlaw06.PtquadParts': WHATEVER THE INPUT: true; the input reads as it did. -/
def ptquadPartsSpec : ChangeSpec := { name := "ptquadParts", fn := fun _ => fun
  | [d1, d2, d3, d4] => { results := [.lit (.bool true)], args := [d1, d2, d3, d4] }
  | _ => none }
def ptquadPartsRow : OpenClaim := { program := "ytmjnffjacgjfmaa", sum := "1b84d833667f0fb38de8ded9a3e1be9f9bc2a1c78b796089e33ebda94d008814", func := "paravent/paraventlaw06.PtquadParts", spec := "ptquadParts", inPlace := ["internal/reflectlite.ValueOf", "internal/reflectlite.Swapper", "(internal/reflectlite.Value).Len"], unfollowed := true, recurses := true, apart := false }
def PtquadPartsSaid : Prop := ptquadPartsRow.holds Try.pinned (OpenSpec.ofChange ptquadPartsSpec)

/-- ITS FALSE NEIGHBOUR: 'it returns false'. Refute it at one input. -/
def ptquadPartsWrong : ChangeSpec := { name := "ptquadParts", fn := fun _ => fun
  | [d1, d2, d3, d4] => { results := [.lit (.bool false)], args := [d1, d2, d3, d4] }
  | _ => none }
def PtquadPartsWrongFalsely : Prop := ptquadPartsRow.holds Try.pinned (OpenSpec.ofChange ptquadPartsWrong)

/-- 'paraventlaw06.PtquadWindows': WHATEVER THE INPUT: true; the input reads as it did. -/
def ptquadWindowsSpec : ChangeSpec := { name := "ptquadWindows", fn := fun _ => fun
  | [d1, d2, d3] => { results := [.lit (.bool true)], args := [d1, d2, d3] }
  | _ => none }
def ptquadWindowsRow : OpenClaim := { program := "ytmjnffjacgjfmaa", sum := "1b84d833667f0fb38de8ded9a3e1be9f9bc2a1c78b796089e33ebda94d008814", func := "paravent/paraventlaw06.PtquadWindows", spec := "ptquadWindows", inPlace := ["internal/reflectlite.ValueOf", "internal/reflectlite.Swapper", "(internal/reflectlite.Value).Len"], unfollowed := true, recurses := true, apart := false }
def PtquadWindowsSaid : Prop := ptquadWindowsRow.holds Try.pinned (OpenSpec.ofChange ptquadWindowsSpec)

/-- ITS FALSE NEIGHBOUR: 'it returns false'. Refute it at one input. -/
def ptquadWindowsWrong : ChangeSpec := { name := "ptquadWindows", fn := fun _ => fun
  | [d1, d2, d3] => { results := [.lit (.bool false)], args := [d1, d2, d3] }
  | _ => none }
def PtquadWindowsWrongFalsely : Prop := ptquadWindowsRow.holds Try.pinned (OpenSpec.ofChange ptquadWindowsWrong)

/-- 'paraventlaw06.PtquadChanges': WHATEVER THE INPUT: true; the input reads as it did. -/
def ptquadChangesSpec : ChangeSpec := { name := "ptquadChanges", fn := fun _ => fun
  | [d1, d2, d3] => { results := [.lit (.bool true)], args := [d1, d2, d3] }
  | _ => none }
def ptquadChangesRow : OpenClaim := { program := "ytmjnffjacgjfmaa", sum := "1b84d833667f0fb38de8ded9a3e1be9f9bc2a1c78b796089e33ebda94d008814", func := "paravent/paraventlaw06.PtquadChanges", spec := "ptquadChanges", inPlace := ["internal/reflectlite.ValueOf", "internal/reflectlite.Swapper", "(internal/reflectlite.Value).Len"], unfollowed := true, recurses := true, apart := false }
def PtquadChangesSaid : Prop := ptquadChangesRow.holds Try.pinned (OpenSpec.ofChange ptquadChangesSpec)

/-- ITS FALSE NEIGHBOUR: 'it returns false'. Refute it at one input. -/
def ptquadChangesWrong : ChangeSpec := { name := "ptquadChanges", fn := fun _ => fun
  | [d1, d2, d3] => { results := [.lit (.bool false)], args := [d1, d2, d3] }
  | _ => none }
def PtquadChangesWrongFalsely : Prop := ptquadChangesRow.holds Try.pinned (OpenSpec.ofChange ptquadChangesWrong)

/-- 'paraventlaw06.PtquadPlays': WHATEVER THE INPUT: true; the input reads as it did. -/
def ptquadPlaysSpec : ChangeSpec := { name := "ptquadPlays", fn := fun _ => fun
  | [d1, d2] => { results := [.lit (.bool true)], args := [d1, d2] }
  | _ => none }
def ptquadPlaysRow : OpenClaim := { program := "ytmjnffjacgjfmaa", sum := "1b84d833667f0fb38de8ded9a3e1be9f9bc2a1c78b796089e33ebda94d008814", func := "paravent/paraventlaw06.PtquadPlays", spec := "ptquadPlays", inPlace := ["internal/reflectlite.ValueOf", "internal/reflectlite.Swapper", "(internal/reflectlite.Value).Len"], unfollowed := true, recurses := true, apart := false }
def PtquadPlaysSaid : Prop := ptquadPlaysRow.holds Try.pinned (OpenSpec.ofChange ptquadPlaysSpec)

/-- ITS FALSE NEIGHBOUR: 'it returns false'. Refute it at one input. -/
def ptquadPlaysWrong : ChangeSpec := { name := "ptquadPlays", fn := fun _ => fun
  | [d1, d2] => { results := [.lit (.bool false)], args := [d1, d2] }
  | _ => none }
def PtquadPlaysWrongFalsely : Prop := ptquadPlaysRow.holds Try.pinned (OpenSpec.ofChange ptquadPlaysWrong)

/- THE SECOND FORM. 'bulk': how many values and letters a reading holds, each counted each time it is reached (what is shared counts as often as it is met; a slice's spare places count too). A statement '..UptoSaid' is the law's where the arguments, and the package variables that the reading takes, are together of bulk at most 1048576: NARROWER than '..Said'. Prove '..Said' where nothing that the law and all that it calls make is longer than what came in: it says more and counts as full. Else prove '..UptoSaid'. A law counts once. -/
mutual
def uptoBulk {H : Type} : DataW H → Nat
  | .lit (.string bytes) => bytes.length + 1
  | .lit _ => 1
  | .nil => 1
  | .ptr d => uptoBulk d + 1
  | .slice elems spare => uptoBulkAll elems + uptoBulkAll spare + 1
  | .agg parts => uptoBulkAll parts + 1
  | .iface _ d => uptoBulk d + 1
  | .map entries => uptoBulkEntries entries + 1
  | .held _ => 1
def uptoBulkAll {H : Type} : List (DataW H) → Nat
  | [] => 0
  | d :: r => uptoBulk d + uptoBulkAll r
def uptoBulkEntries {H : Type} : List (Lit × DataW H) → Nat
  | [] => 0
  | x :: r => uptoBulkEntry x + uptoBulkEntries r
def uptoBulkEntry {H : Type} : Lit × DataW H → Nat
  | (.string bytes, d) => bytes.length + uptoBulk d + 1
  | (_, d) => uptoBulk d + 1
 end
def uptoSmall : (H : Type) → List (DataW H) → Bool := fun _ ds => decide (uptoBulkAll ds ≤ 1048576)
def OpenSpec.upto (s : _root_.Go.ChangeSpec) : _root_.Go.OpenSpec := { _root_.Go.OpenSpec.ofChange s with cond := some uptoSmall }

/-- 'paraventlaw06.PtquadNearest', WHERE WHAT IT READS IS OF BULK AT MOST 1048576: true; the input reads as it did. -/
def ptquadNearestUptoRow : OpenClaim := { program := "ytmjnffjacgjfmaa", sum := "1b84d833667f0fb38de8ded9a3e1be9f9bc2a1c78b796089e33ebda94d008814", func := "paravent/paraventlaw06.PtquadNearest", spec := "ptquadNearest", unfollowed := true, recurses := true, apart := false, narrowed := true }
def PtquadNearestUptoSaid : Prop := ptquadNearestUptoRow.holds Try.pinned (OpenSpec.upto ptquadNearestSpec)

/-- 'paraventlaw06.PtquadTurned', WHERE WHAT IT READS IS OF BULK AT MOST 1048576: true; the input reads as it did. -/
def ptquadTurnedUptoRow : OpenClaim := { program := "ytmjnffjacgjfmaa", sum := "1b84d833667f0fb38de8ded9a3e1be9f9bc2a1c78b796089e33ebda94d008814", func := "paravent/paraventlaw06.PtquadTurned", spec := "ptquadTurned", inPlace := ["internal/reflectlite.ValueOf", "internal/reflectlite.Swapper", "(internal/reflectlite.Value).Len"], unfollowed := true, recurses := true, apart := false, narrowed := true }
def PtquadTurnedUptoSaid : Prop := ptquadTurnedUptoRow.holds Try.pinned (OpenSpec.upto ptquadTurnedSpec)

/-- 'paraventlaw06.PtquadParts', WHERE WHAT IT READS IS OF BULK AT MOST 1048576: true; the input reads as it did. -/
def ptquadPartsUptoRow : OpenClaim := { program := "ytmjnffjacgjfmaa", sum := "1b84d833667f0fb38de8ded9a3e1be9f9bc2a1c78b796089e33ebda94d008814", func := "paravent/paraventlaw06.PtquadParts", spec := "ptquadParts", inPlace := ["internal/reflectlite.ValueOf", "internal/reflectlite.Swapper", "(internal/reflectlite.Value).Len"], unfollowed := true, recurses := true, apart := false, narrowed := true }
def PtquadPartsUptoSaid : Prop := ptquadPartsUptoRow.holds Try.pinned (OpenSpec.upto ptquadPartsSpec)

/-- 'paraventlaw06.PtquadWindows', WHERE WHAT IT READS IS OF BULK AT MOST 1048576: true; the input reads as it did. -/
def ptquadWindowsUptoRow : OpenClaim := { program := "ytmjnffjacgjfmaa", sum := "1b84d833667f0fb38de8ded9a3e1be9f9bc2a1c78b796089e33ebda94d008814", func := "paravent/paraventlaw06.PtquadWindows", spec := "ptquadWindows", inPlace := ["internal/reflectlite.ValueOf", "internal/reflectlite.Swapper", "(internal/reflectlite.Value).Len"], unfollowed := true, recurses := true, apart := false, narrowed := true }
def PtquadWindowsUptoSaid : Prop := ptquadWindowsUptoRow.holds Try.pinned (OpenSpec.upto ptquadWindowsSpec)

/-- 'paraventlaw06.PtquadChanges', WHERE WHAT IT READS IS OF BULK AT MOST 1048576: true; the input reads as it did. -/
def ptquadChangesUptoRow : OpenClaim := { program := "ytmjnffjacgjfmaa", sum := "1b84d833667f0fb38de8ded9a3e1be9f9bc2a1c78b796089e33ebda94d008814", func := "paravent/paraventlaw06.PtquadChanges", spec := "ptquadChanges", inPlace := ["internal/reflectlite.ValueOf", "internal/reflectlite.Swapper", "(internal/reflectlite.Value).Len"], unfollowed := true, recurses := true, apart := false, narrowed := true }
def PtquadChangesUptoSaid : Prop := ptquadChangesUptoRow.holds Try.pinned (OpenSpec.upto ptquadChangesSpec)

/-- 'paraventlaw06.PtquadPlays', WHERE WHAT IT READS IS OF BULK AT MOST 1048576: true; the input reads as it did. -/
def ptquadPlaysUptoRow : OpenClaim := { program := "ytmjnffjacgjfmaa", sum := "1b84d833667f0fb38de8ded9a3e1be9f9bc2a1c78b796089e33ebda94d008814", func := "paravent/paraventlaw06.PtquadPlays", spec := "ptquadPlays", inPlace := ["internal/reflectlite.ValueOf", "internal/reflectlite.Swapper", "(internal/reflectlite.Value).Len"], unfollowed := true, recurses := true, apart := false, narrowed := true }
def PtquadPlaysUptoSaid : Prop := ptquadPlaysUptoRow.holds Try.pinned (OpenSpec.upto ptquadPlaysSpec)

end Rows
end Go.Proofs.Ytmjnffjacgjfmaa
