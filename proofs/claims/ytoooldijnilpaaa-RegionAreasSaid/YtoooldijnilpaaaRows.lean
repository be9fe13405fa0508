/-
  No cell of these rows narrows 'for every input' (looked for: loops, veiled, ifaces, maps, wideKeys, modest, calm, conditions, laid).
  DERIVED. THE GIVEN ROWS OF THIS SEAT. 12 by the template 'for every input the law returns true; each argument reads behind the call as it read before'; 0 by the template 'total and deterministic' (their statements: YtoooldijnilpaaaTotals.lean).
  GIVEN WITH THE SEED: the statements are not yours to turn. If you find one false, say at which input.
  Laid BY PROGRAM, IN A SANDBOX (cutbox-rows.mjs): the forced cells as the released guide's own fill.sh prints them over the translation 614a78ef8a8dddc6… (all of the seat's roots in one cut). By AI agents, Wed Nov 11 2026. No macro, syntax, notation, axiom, sorry.
-/
import Derived.Test.YtoooldijnilpaaaChecked
import GoSem.Claim
import GoSem.ClaimJoined
import GoSem.ClaimMapViews
import Derived.JoinedTies
import Derived.KernelRfl
namespace Go.Proofs.Ytoooldijnilpaaa
/- THE CELL 'sum', in the pinned program and in every row, IS THE sha256 OF THE DUMP (.gsa) THAT YtoooldijnilpaaaProg.lean LOADS. Nothing in Lean hashes anything: it is a label: what it is worth is what the hold of that sum in a sandbox is worth. -/
noncomputable def Try.pinned : Pinned := { name := "ytoooldijnilpaaa", sum := "614a78ef8a8dddc6f3f597d74590505997da3676578fc7d8609fb8e78e50d28d", checked := Try.checked }
namespace Rows
def none {H : Type} : Left H := { results := [], args := [] }

/-- 'paraventlaw08.PyramidCounts': WHATEVER THE INPUT: true; the input reads as it did. -/
def pyramidCountsSpec : ChangeSpec := { name := "pyramidCounts", fn := fun _ => fun
  | [d1, d2, d3] => { results := [.lit (.bool true)], args := [d1, d2, d3] }
  | _ => none }
def pyramidCountsRow : OpenClaim := { program := "ytoooldijnilpaaa", sum := "614a78ef8a8dddc6f3f597d74590505997da3676578fc7d8609fb8e78e50d28d", func := "paravent/paraventlaw08.PyramidCounts", spec := "pyramidCounts", unfollowed := true, recurses := true, apart := false }
def PyramidCountsSaid : Prop := pyramidCountsRow.holds Try.pinned (OpenSpec.ofChange pyramidCountsSpec)

/-- ITS FALSE NEIGHBOUR: 'it returns false'. Refute it at one input. -/
def pyramidCountsWrong : ChangeSpec := { name := "pyramidCounts", fn := fun _ => fun
  | [d1, d2, d3] => { results := [.lit (.bool false)], args := [d1, d2, d3] }
  | _ => none }
def PyramidCountsWrongFalsely : Prop := pyramidCountsRow.holds Try.pinned (OpenSpec.ofChange pyramidCountsWrong)

/-- 'paraventlaw08.PyramidSums': WHATEVER THE INPUT: true; the input reads as it did. -/
def pyramidSumsSpec : ChangeSpec := { name := "pyramidSums", fn := fun _ => fun
  | [d1, d2] => { results := [.lit (.bool true)], args := [d1, d2] }
  | _ => none }
def pyramidSumsRow : OpenClaim := { program := "ytoooldijnilpaaa", sum := "614a78ef8a8dddc6f3f597d74590505997da3676578fc7d8609fb8e78e50d28d", func := "paravent/paraventlaw08.PyramidSums", spec := "pyramidSums", unfollowed := true, recurses := true, apart := false }
def PyramidSumsSaid : Prop := pyramidSumsRow.holds Try.pinned (OpenSpec.ofChange pyramidSumsSpec)

/-- ITS FALSE NEIGHBOUR: 'it returns false'. Refute it at one input. -/
def pyramidSumsWrong : ChangeSpec := { name := "pyramidSums", fn := fun _ => fun
  | [d1, d2] => { results := [.lit (.bool false)], args := [d1, d2] }
  | _ => none }
def PyramidSumsWrongFalsely : Prop := pyramidSumsRow.holds Try.pinned (OpenSpec.ofChange pyramidSumsWrong)

/-- 'paraventlaw08.PyramidLevels': WHATEVER THE INPUT: true; the input reads as it did. -/
def pyramidLevelsSpec : ChangeSpec := { name := "pyramidLevels", fn := fun _ => fun
  | [d1, d2] => { results := [.lit (.bool true)], args := [d1, d2] }
  | _ => none }
def pyramidLevelsRow : OpenClaim := { program := "ytoooldijnilpaaa", sum := "614a78ef8a8dddc6f3f597d74590505997da3676578fc7d8609fb8e78e50d28d", func := "paravent/paraventlaw08.PyramidLevels", spec := "pyramidLevels", unfollowed := true, recurses := true, apart := false }
def PyramidLevelsSaid : Prop := pyramidLevelsRow.holds Try.pinned (OpenSpec.ofChange pyramidLevelsSpec)

/-- ITS FALSE NEIGHBOUR: 'it returns false'. Refute it at one input. -/
def pyramidLevelsWrong : ChangeSpec := { name := "pyramidLevels", fn := fun _ => fun
  | [d1, d2] => { results := [.lit (.bool false)], args := [d1, d2] }
  | _ => none }
def PyramidLevelsWrongFalsely : Prop := pyramidLevelsRow.holds Try.pinned (OpenSpec.ofChange pyramidLevelsWrong)

/-- 'paraventlaw08.PyramidTurned': WHATEVER THE INPUT: true; the input reads as it did. -/
def pyramidTurnedSpec : ChangeSpec := { name := "pyramidTurned", fn := fun _ => fun
  | [d1, d2] => { results := [.lit (.bool true)], args := [d1, d2] }
  | _ => none }
def pyramidTurnedRow : OpenClaim := { program := "ytoooldijnilpaaa", sum := "614a78ef8a8dddc6f3f597d74590505997da3676578fc7d8609fb8e78e50d28d", func := "paravent/paraventlaw08.PyramidTurned", spec := "pyramidTurned", inPlace := ["internal/reflectlite.ValueOf", "internal/reflectlite.Swapper", "(internal/reflectlite.Value).Len"], unfollowed := true, recurses := true, apart := false }
def PyramidTurnedSaid : Prop := pyramidTurnedRow.holds Try.pinned (OpenSpec.ofChange pyramidTurnedSpec)

/-- ITS FALSE NEIGHBOUR: 'it returns false'. Refute it at one input. -/
def pyramidTurnedWrong : ChangeSpec := { name := "pyramidTurned", fn := fun _ => fun
  | [d1, d2] => { results := [.lit (.bool false)], args := [d1, d2] }
  | _ => none }
def PyramidTurnedWrongFalsely : Prop := pyramidTurnedRow.holds Try.pinned (OpenSpec.ofChange pyramidTurnedWrong)

/-- 'paraventlaw08.PyramidPlays': WHATEVER THE INPUT: true; the input reads as it did. -/
def pyramidPlaysSpec : ChangeSpec := { name := "pyramidPlays", fn := fun _ => fun
  | [d1, d2] => { results := [.lit (.bool true)], args := [d1, d2] }
  | _ => none }
def pyramidPlaysRow : OpenClaim := { program := "ytoooldijnilpaaa", sum := "614a78ef8a8dddc6f3f597d74590505997da3676578fc7d8609fb8e78e50d28d", func := "paravent/paraventlaw08.PyramidPlays", spec := "pyramidPlays", inPlace := ["internal/reflectlite.ValueOf", "internal/reflectlite.Swapper", "(internal/reflectlite.Value).Len"], unfollowed := true, recurses := true, apart := false }
def PyramidPlaysSaid : Prop := pyramidPlaysRow.holds Try.pinned (OpenSpec.ofChange pyramidPlaysSpec)

/-- ITS FALSE NEIGHBOUR: 'it returns false'. Refute it at one input. -/
def pyramidPlaysWrong : ChangeSpec := { name := "pyramidPlays", fn := fun _ => fun
  | [d1, d2] => { results := [.lit (.bool false)], args := [d1, d2] }
  | _ => none }
def PyramidPlaysWrongFalsely : Prop := pyramidPlaysRow.holds Try.pinned (OpenSpec.ofChange pyramidPlaysWrong)

/-- 'paraventlaw08.PyramidNil': WHATEVER THE INPUT: true; the input reads as it did. -/
def pyramidNilSpec : ChangeSpec := { name := "pyramidNil", fn := fun _ => fun
  | [d1, d2] => { results := [.lit (.bool true)], args := [d1, d2] }
  | _ => none }
def pyramidNilRow : OpenClaim := { program := "ytoooldijnilpaaa", sum := "614a78ef8a8dddc6f3f597d74590505997da3676578fc7d8609fb8e78e50d28d", func := "paravent/paraventlaw08.PyramidNil", spec := "pyramidNil", inPlace := ["internal/reflectlite.ValueOf", "internal/reflectlite.Swapper", "(internal/reflectlite.Value).Len"], unfollowed := true, recurses := true, apart := false }
def PyramidNilSaid : Prop := pyramidNilRow.holds Try.pinned (OpenSpec.ofChange pyramidNilSpec)

/-- ITS FALSE NEIGHBOUR: 'it returns false'. Refute it at one input. -/
def pyramidNilWrong : ChangeSpec := { name := "pyramidNil", fn := fun _ => fun
  | [d1, d2] => { results := [.lit (.bool false)], args := [d1, d2] }
  | _ => none }
def PyramidNilWrongFalsely : Prop := pyramidNilRow.holds Try.pinned (OpenSpec.ofChange pyramidNilWrong)

/-- 'paraventlaw13.RegionApart': WHATEVER THE INPUT: true; the input reads as it did. -/
def regionApartSpec : ChangeSpec := { name := "regionApart", fn := fun _ => fun
  | [d] => { results := [.lit (.bool true)], args := [d] }
  | _ => none }
def regionApartRow : OpenClaim := { program := "ytoooldijnilpaaa", sum := "614a78ef8a8dddc6f3f597d74590505997da3676578fc7d8609fb8e78e50d28d", func := "paravent/paraventlaw13.RegionApart", spec := "regionApart", unfollowed := true, recurses := true, apart := false }
def RegionApartSaid : Prop := regionApartRow.holds Try.pinned (OpenSpec.ofChange regionApartSpec)

/-- ITS FALSE NEIGHBOUR: 'it returns false'. Refute it at one input. -/
def regionApartWrong : ChangeSpec := { name := "regionApart", fn := fun _ => fun
  | [d] => { results := [.lit (.bool false)], args := [d] }
  | _ => none }
def RegionApartWrongFalsely : Prop := regionApartRow.holds Try.pinned (OpenSpec.ofChange regionApartWrong)

/-- 'paraventlaw13.RegionTurned': WHATEVER THE INPUT: true; the input reads as it did. -/
def regionTurnedSpec : ChangeSpec := { name := "regionTurned", fn := fun _ => fun
  | [d1, d2] => { results := [.lit (.bool true)], args := [d1, d2] }
  | _ => none }
def regionTurnedRow : OpenClaim := { program := "ytoooldijnilpaaa", sum := "614a78ef8a8dddc6f3f597d74590505997da3676578fc7d8609fb8e78e50d28d", func := "paravent/paraventlaw13.RegionTurned", spec := "regionTurned", unfollowed := true, recurses := true, apart := false }
def RegionTurnedSaid : Prop := regionTurnedRow.holds Try.pinned (OpenSpec.ofChange regionTurnedSpec)

/-- ITS FALSE NEIGHBOUR: 'it returns false'. Refute it at one input. -/
def regionTurnedWrong : ChangeSpec := { name := "regionTurned", fn := fun _ => fun
  | [d1, d2] => { results := [.lit (.bool false)], args := [d1, d2] }
  | _ => none }
def RegionTurnedWrongFalsely : Prop := regionTurnedRow.holds Try.pinned (OpenSpec.ofChange regionTurnedWrong)

/-- 'paraventlaw13.RegionAreas': WHATEVER THE INPUT: true; the input reads as it did. -/
def regionAreasSpec : ChangeSpec := { name := "regionAreas", fn := fun _ => fun
  | [d1, d2] => { results := [.lit (.bool true)], args := [d1, d2] }
  | _ => none }
def regionAreasRow : OpenClaim := { program := "ytoooldijnilpaaa", sum := "614a78ef8a8dddc6f3f597d74590505997da3676578fc7d8609fb8e78e50d28d", func := "paravent/paraventlaw13.RegionAreas", spec := "regionAreas", unfollowed := true, recurses := true, apart := false }
def RegionAreasSaid : Prop := regionAreasRow.holds Try.pinned (OpenSpec.ofChange regionAreasSpec)

/-- ITS FALSE NEIGHBOUR: 'it returns false'. Refute it at one input. -/
def regionAreasWrong : ChangeSpec := { name := "regionAreas", fn := fun _ => fun
  | [d1, d2] => { results := [.lit (.bool false)], args := [d1, d2] }
  | _ => none }
def RegionAreasWrongFalsely : Prop := regionAreasRow.holds Try.pinned (OpenSpec.ofChange regionAreasWrong)

/-- 'paraventlaw13.RegionCovers': WHATEVER THE INPUT: true; the input reads as it did. -/
def regionCoversSpec : ChangeSpec := { name := "regionCovers", fn := fun _ => fun
  | [d1, d2] => { results := [.lit (.bool true)], args := [d1, d2] }
  | _ => none }
def regionCoversRow : OpenClaim := { program := "ytoooldijnilpaaa", sum := "614a78ef8a8dddc6f3f597d74590505997da3676578fc7d8609fb8e78e50d28d", func := "paravent/paraventlaw13.RegionCovers", spec := "regionCovers", unfollowed := true, recurses := true, apart := false }
def RegionCoversSaid : Prop := regionCoversRow.holds Try.pinned (OpenSpec.ofChange regionCoversSpec)

/-- ITS FALSE NEIGHBOUR: 'it returns false'. Refute it at one input. -/
def regionCoversWrong : ChangeSpec := { name := "regionCovers", fn := fun _ => fun
  | [d1, d2] => { results := [.lit (.bool false)], args := [d1, d2] }
  | _ => none }
def RegionCoversWrongFalsely : Prop := regionCoversRow.holds Try.pinned (OpenSpec.ofChange regionCoversWrong)

/-- 'paraventlaw13.RegionForms': WHATEVER THE INPUT: true; the input reads as it did. -/
def regionFormsSpec : ChangeSpec := { name := "regionForms", fn := fun _ => fun
  | [d1, d2] => { results := [.lit (.bool true)], args := [d1, d2] }
  | _ => none }
def regionFormsRow : OpenClaim := { program := "ytoooldijnilpaaa", sum := "614a78ef8a8dddc6f3f597d74590505997da3676578fc7d8609fb8e78e50d28d", func := "paravent/paraventlaw13.RegionForms", spec := "regionForms", unfollowed := true, recurses := true, apart := false }
def RegionFormsSaid : Prop := regionFormsRow.holds Try.pinned (OpenSpec.ofChange regionFormsSpec)

/-- ITS FALSE NEIGHBOUR: 'it returns false'. Refute it at one input. -/
def regionFormsWrong : ChangeSpec := { name := "regionForms", fn := fun _ => fun
  | [d1, d2] => { results := [.lit (.bool false)], args := [d1, d2] }
  | _ => none }
def RegionFormsWrongFalsely : Prop := regionFormsRow.holds Try.pinned (OpenSpec.ofChange regionFormsWrong)

/-- 'paraventlaw13.RegionPoints': WHATEVER THE INPUT: true; the input reads as it did. -/
def regionPointsSpec : ChangeSpec := { name := "regionPoints", fn := fun _ => fun
  | [d1, d2, d3] => { results := [.lit (.bool true)], args := [d1, d2, d3] }
  | _ => none }
def regionPointsRow : OpenClaim := { program := "ytoooldijnilpaaa", sum := "614a78ef8a8dddc6f3f597d74590505997da3676578fc7d8609fb8e78e50d28d", func := "paravent/paraventlaw13.RegionPoints", spec := "regionPoints", unfollowed := true, recurses := true, apart := false }
def RegionPointsSaid : Prop := regionPointsRow.holds Try.pinned (OpenSpec.ofChange regionPointsSpec)

/-- ITS FALSE NEIGHBOUR: 'it returns false'. Refute it at one input. -/
def regionPointsWrong : ChangeSpec := { name := "regionPoints", fn := fun _ => fun
  | [d1, d2, d3] => { results := [.lit (.bool false)], args := [d1, d2, d3] }
  | _ => none }
def RegionPointsWrongFalsely : Prop := regionPointsRow.holds Try.pinned (OpenSpec.ofChange regionPointsWrong)

/- THE SECOND FORM. 'bulk': how many values and letters a reading holds, each counted each time it is reached (what is shared counts as often as it is met; a slice's spare places count too). A statement '..UptoSaid' is the law's where the arguments, and the package variables that the reading takes, are together of bulk at most 1048576: NARROWER than '..Said'. Prove '..Said' where nothing that the law and all that it calls make is longer than what came in: it says more and counts as full. Else prove '..UptoSaid'. A law counts once. -/
mutual
def uptoBulk {H : Type} : DataW H → Nat
  | .lit (.string bytes) => bytes.length + 1
  | .lit _ => 1
  | .nil => 1
  | .ptr d => uptoBulk d + 1
  | .slice elems spare => uptoBulkAll elems + uptoBulkAll spare + 1
  | .agg parts => uptoBulkAll parts + 1
  | .iface _ d => uptoBulk d + 1
  | .map entries => uptoBulkEntries entries + 1
  | .held _ => 1
def uptoBulkAll {H : Type} : List (DataW H) → Nat
  | [] => 0
  | d :: r => uptoBulk d + uptoBulkAll r
def uptoBulkEntries {H : Type} : List (Lit × DataW H) → Nat
  | [] => 0
  | x :: r => uptoBulkEntry x + uptoBulkEntries r
def uptoBulkEntry {H : Type} : Lit × DataW H → Nat
  | (.string bytes, d) => bytes.length + uptoBulk d + 1
  | (_, d) => uptoBulk d + 1
 end
def uptoSmall : (H : Type) → List (DataW H) → Bool := fun _ ds => decide (uptoBulkAll ds ≤ 1048576)
def OpenSpec.upto (s : _root_.Go.ChangeSpec) : _root_.Go.OpenSpec := { _root_.Go.OpenSpec.ofChange s with cond := some uptoSmall }

/-- 'paraventlaw08.PyramidCounts', WHERE WHAT IT READS IS OF BULK AT MOST 1048576: true; the input reads as it did. -/
def pyramidCountsUptoRow : OpenClaim := { program := "ytoooldijnilpaaa", sum := "614a78ef8a8dddc6f3f597d74590505997da3676578fc7d8609fb8e78e50d28d", func := "paravent/paraventlaw08.PyramidCounts", spec := "pyramidCounts", unfollowed := true, recurses := true, apart := false, narrowed := true }
def PyramidCountsUptoSaid : Prop := pyramidCountsUptoRow.holds Try.pinned (OpenSpec.upto pyramidCountsSpec)

/-- 'paraventlaw08.PyramidSums', WHERE WHAT IT READS IS OF BULK AT MOST 1048576: true; the input reads as it did. -/
def pyramidSumsUptoRow : OpenClaim := { program := "ytoooldijnilpaaa", sum := "614a78ef8a8dddc6f3f597d74590505997da3676578fc7d8609fb8e78e50d28d", func := "paravent/paraventlaw08.PyramidSums", spec := "pyramidSums", unfollowed := true, recurses := true, apart := false, narrowed := true }
def PyramidSumsUptoSaid : Prop := pyramidSumsUptoRow.holds Try.pinned (OpenSpec.upto pyramidSumsSpec)

/-- 'paraventlaw08.PyramidLevels', WHERE WHAT IT READS IS OF BULK AT MOST 1048576: true; the input reads as it did. -/
def pyramidLevelsUptoRow : OpenClaim := { program := "ytoooldijnilpaaa", sum := "614a78ef8a8dddc6f3f597d74590505997da3676578fc7d8609fb8e78e50d28d", func := "paravent/paraventlaw08.PyramidLevels", spec := "pyramidLevels", unfollowed := true, recurses := true, apart := false, narrowed := true }
def PyramidLevelsUptoSaid : Prop := pyramidLevelsUptoRow.holds Try.pinned (OpenSpec.upto pyramidLevelsSpec)

/-- 'paraventlaw08.PyramidTurned', WHERE WHAT IT READS IS OF BULK AT MOST 1048576: true; the input reads as it did. -/
def pyramidTurnedUptoRow : OpenClaim := { program := "ytoooldijnilpaaa", sum := "614a78ef8a8dddc6f3f597d74590505997da3676578fc7d8609fb8e78e50d28d", func := "paravent/paraventlaw08.PyramidTurned", spec := "pyramidTurned", inPlace := ["internal/reflectlite.ValueOf", "internal/reflectlite.Swapper", "(internal/reflectlite.Value).Len"], unfollowed := true, recurses := true, apart := false, narrowed := true }
def PyramidTurnedUptoSaid : Prop := pyramidTurnedUptoRow.holds Try.pinned (OpenSpec.upto pyramidTurnedSpec)

/-- 'paraventlaw08.PyramidPlays', WHERE WHAT IT READS IS OF BULK AT MOST 1048576: true; the input reads as it did. -/
def pyramidPlaysUptoRow : OpenClaim := { program := "ytoooldijnilpaaa", sum := "614a78ef8a8dddc6f3f597d74590505997da3676578fc7d8609fb8e78e50d28d", func := "paravent/paraventlaw08.PyramidPlays", spec := "pyramidPlays", inPlace := ["internal/reflectlite.ValueOf", "internal/reflectlite.Swapper", "(internal/reflectlite.Value).Len"], unfollowed := true, recurses := true, apart := false, narrowed := true }
def PyramidPlaysUptoSaid : Prop := pyramidPlaysUptoRow.holds Try.pinned (OpenSpec.upto pyramidPlaysSpec)

/-- 'paraventlaw08.PyramidNil', WHERE WHAT IT READS IS OF BULK AT MOST 1048576: true; the input reads as it did. -/
def pyramidNilUptoRow : OpenClaim := { program := "ytoooldijnilpaaa", sum := "614a78ef8a8dddc6f3f597d74590505997da3676578fc7d8609fb8e78e50d28d", func := "paravent/paraventlaw08.PyramidNil", spec := "pyramidNil", inPlace := ["internal/reflectlite.ValueOf", "internal/reflectlite.Swapper", "(internal/reflectlite.Value).Len"], unfollowed := true, recurses := true, apart := false, narrowed := true }
def PyramidNilUptoSaid : Prop := pyramidNilUptoRow.holds Try.pinned (OpenSpec.upto pyramidNilSpec)

/-- 'paraventlaw13.RegionApart', WHERE WHAT IT READS IS OF BULK AT MOST 1048576: true; the input reads as it did. -/
def regionApartUptoRow : OpenClaim := { program := "ytoooldijnilpaaa", sum := "614a78ef8a8dddc6f3f597d74590505997da3676578fc7d8609fb8e78e50d28d", func := "paravent/paraventlaw13.RegionApart", spec := "regionApart", unfollowed := true, recurses := true, apart := false, narrowed := true }
def RegionApartUptoSaid : Prop := regionApartUptoRow.holds Try.pinned (OpenSpec.upto regionApartSpec)

/-- 'paraventlaw13.RegionTurned', WHERE WHAT IT READS IS OF BULK AT MOST 1048576: true; the input reads as it did. -/
def regionTurnedUptoRow : OpenClaim := { program := "ytoooldijnilpaaa", sum := "614a78ef8a8dddc6f3f597d74590505997da3676578fc7d8609fb8e78e50d28d", func := "paravent/paraventlaw13.RegionTurned", spec := "regionTurned", unfollowed := true, recurses := true, apart := false, narrowed := true }
def RegionTurnedUptoSaid : Prop := regionTurnedUptoRow.holds Try.pinned (OpenSpec.upto regionTurnedSpec)

/-- 'paraventlaw13.RegionAreas', WHERE WHAT IT READS IS OF BULK AT MOST 1048576: true; the input reads as it did. -/
def regionAreasUptoRow : OpenClaim := { program := "ytoooldijnilpaaa", sum := "614a78ef8a8dddc6f3f597d74590505997da3676578fc7d8609fb8e78e50d28d", func := "paravent/paraventlaw13.RegionAreas", spec := "regionAreas", unfollowed := true, recurses := true, apart := false, narrowed := true }
def RegionAreasUptoSaid : Prop := regionAreasUptoRow.holds Try.pinned (OpenSpec.upto regionAreasSpec)

/-- 'paraventlaw13.RegionCovers', WHERE WHAT IT READS IS OF BULK AT MOST 1048576: true; the input reads as it did. -/
def regionCoversUptoRow : OpenClaim := { program := "ytoooldijnilpaaa", sum := "614a78ef8a8dddc6f3f597d74590505997da3676578fc7d8609fb8e78e50d28d", func := "paravent/paraventlaw13.RegionCovers", spec := "regionCovers", unfollowed := true, recurses := true, apart := false, narrowed := true }
def RegionCoversUptoSaid : Prop := regionCoversUptoRow.holds Try.pinned (OpenSpec.upto regionCoversSpec)

/-- 'paraventlaw13.RegionForms', WHERE WHAT IT READS IS OF BULK AT MOST 1048576: true; the input reads as it did. -/
def regionFormsUptoRow : OpenClaim := { program := "ytoooldijnilpaaa", sum := "614a78ef8a8dddc6f3f597d74590505997da3676578fc7d8609fb8e78e50d28d", func := "paravent/paraventlaw13.RegionForms", spec := "regionForms", unfollowed := true, recurses := true, apart := false, narrowed := true }
def RegionFormsUptoSaid : Prop := regionFormsUptoRow.holds Try.pinned (OpenSpec.upto regionFormsSpec)

/-- 'paraventlaw13.RegionPoints', WHERE WHAT IT READS IS OF BULK AT MOST 1048576: true; the input reads as it did. -/
def regionPointsUptoRow : OpenClaim := { program := "ytoooldijnilpaaa", sum := "614a78ef8a8dddc6f3f597d74590505997da3676578fc7d8609fb8e78e50d28d", func := "paravent/paraventlaw13.RegionPoints", spec := "regionPoints", unfollowed := true, recurses := true, apart := false, narrowed := true }
def RegionPointsUptoSaid : Prop := regionPointsUptoRow.holds Try.pinned (OpenSpec.upto regionPointsSpec)

end Rows
end Go.Proofs.Ytoooldijnilpaaa
