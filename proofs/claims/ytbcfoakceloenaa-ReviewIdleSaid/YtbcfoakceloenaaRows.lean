/-
  No cell of these rows narrows 'for every input' (looked for: loops, veiled, ifaces, maps, wideKeys, modest, calm, conditions, laid).
  DERIVED. THE GIVEN ROWS OF THIS SEAT. 8 by the template 'for every input the law returns true; each argument reads behind the call as it read before'; 0 by the template 'total and deterministic' (their statements: YtbcfoakceloenaaTotals.lean).
  GIVEN WITH THE SEED: the statements are not yours to turn. If you find one false, say at which input.
  Laid BY PROGRAM, IN A SANDBOX (cutbox-rows.mjs): the forced cells as the released guide's own fill.sh prints them over the translation 2f9e96e754f9eaea… (all of the seat's roots in one cut). By AI agents, Wed Nov 11 2026. No macro, syntax, notation, axiom, sorry.
-/
import Derived.Test.YtbcfoakceloenaaChecked
import GoSem.Claim
import GoSem.ClaimJoined
import GoSem.ClaimMapViews
import Derived.JoinedTies
import Derived.KernelRfl
namespace Go.Proofs.Ytbcfoakceloenaa
/- THE CELL 'sum', in the pinned program and in every row, IS THE sha256 OF THE DUMP (.gsa) THAT YtbcfoakceloenaaProg.lean LOADS. Nothing in Lean hashes anything: it is a label: what it is worth is what the hold of that sum in a sandbox is worth. -/
noncomputable def Try.pinned : Pinned := { name := "ytbcfoakceloenaa", sum := "2f9e96e754f9eaea334961caa64c3179ac5925f417c335d301bdea9daff23e87", checked := Try.checked }
namespace Rows
def none {H : Type} : Left H := { results := [], args := [] }

/-- 'paraventlaw27.ReviewChanges': WHATEVER THE INPUT: true; the input reads as it did. -/
def reviewChangesSpec : ChangeSpec := { name := "reviewChanges", fn := fun _ => fun
  | [d1, d2, d3] => { results := [.lit (.bool true)], args := [d1, d2, d3] }
  | _ => none }
def reviewChangesRow : OpenClaim := { program := "ytbcfoakceloenaa", sum := "2f9e96e754f9eaea334961caa64c3179ac5925f417c335d301bdea9daff23e87", func := "paravent/paraventlaw27.ReviewChanges", spec := "reviewChanges", unfollowed := true, recurses := true, plainKeys := false, apart := false }
def ReviewChangesSaid : Prop := reviewChangesRow.holds Try.pinned (OpenSpec.ofChange reviewChangesSpec)

/-- ITS FALSE NEIGHBOUR: 'it returns false'. Refute it at one input. -/
def reviewChangesWrong : ChangeSpec := { name := "reviewChanges", fn := fun _ => fun
  | [d1, d2, d3] => { results := [.lit (.bool false)], args := [d1, d2, d3] }
  | _ => none }
def ReviewChangesWrongFalsely : Prop := reviewChangesRow.holds Try.pinned (OpenSpec.ofChange reviewChangesWrong)

/-- 'paraventlaw27.ReviewPoints': WHATEVER THE INPUT: true; the input reads as it did. -/
def reviewPointsSpec : ChangeSpec := { name := "reviewPoints", fn := fun _ => fun
  | [d1, d2, d3, d4] => { results := [.lit (.bool true)], args := [d1, d2, d3, d4] }
  | _ => none }
def reviewPointsRow : OpenClaim := { program := "ytbcfoakceloenaa", sum := "2f9e96e754f9eaea334961caa64c3179ac5925f417c335d301bdea9daff23e87", func := "paravent/paraventlaw27.ReviewPoints", spec := "reviewPoints", unfollowed := true, recurses := true, plainKeys := false, apart := false }
def ReviewPointsSaid : Prop := reviewPointsRow.holds Try.pinned (OpenSpec.ofChange reviewPointsSpec)

/-- ITS FALSE NEIGHBOUR: 'it returns false'. Refute it at one input. -/
def reviewPointsWrong : ChangeSpec := { name := "reviewPoints", fn := fun _ => fun
  | [d1, d2, d3, d4] => { results := [.lit (.bool false)], args := [d1, d2, d3, d4] }
  | _ => none }
def ReviewPointsWrongFalsely : Prop := reviewPointsRow.holds Try.pinned (OpenSpec.ofChange reviewPointsWrong)

/-- 'paraventlaw27.ReviewBack': WHATEVER THE INPUT: true; the input reads as it did. -/
def reviewBackSpec : ChangeSpec := { name := "reviewBack", fn := fun _ => fun
  | [d1, d2, d3] => { results := [.lit (.bool true)], args := [d1, d2, d3] }
  | _ => none }
def reviewBackRow : OpenClaim := { program := "ytbcfoakceloenaa", sum := "2f9e96e754f9eaea334961caa64c3179ac5925f417c335d301bdea9daff23e87", func := "paravent/paraventlaw27.ReviewBack", spec := "reviewBack", unfollowed := true, recurses := true, plainKeys := false, apart := false }
def ReviewBackSaid : Prop := reviewBackRow.holds Try.pinned (OpenSpec.ofChange reviewBackSpec)

/-- ITS FALSE NEIGHBOUR: 'it returns false'. Refute it at one input. -/
def reviewBackWrong : ChangeSpec := { name := "reviewBack", fn := fun _ => fun
  | [d1, d2, d3] => { results := [.lit (.bool false)], args := [d1, d2, d3] }
  | _ => none }
def ReviewBackWrongFalsely : Prop := reviewBackRow.holds Try.pinned (OpenSpec.ofChange reviewBackWrong)

/-- 'paraventlaw27.ReviewRises': WHATEVER THE INPUT: true; the input reads as it did. -/
def reviewRisesSpec : ChangeSpec := { name := "reviewRises", fn := fun _ => fun
  | [d1, d2] => { results := [.lit (.bool true)], args := [d1, d2] }
  | _ => none }
def reviewRisesRow : OpenClaim := { program := "ytbcfoakceloenaa", sum := "2f9e96e754f9eaea334961caa64c3179ac5925f417c335d301bdea9daff23e87", func := "paravent/paraventlaw27.ReviewRises", spec := "reviewRises", unfollowed := true, recurses := true, plainKeys := false, apart := false }
def ReviewRisesSaid : Prop := reviewRisesRow.holds Try.pinned (OpenSpec.ofChange reviewRisesSpec)

/-- ITS FALSE NEIGHBOUR: 'it returns false'. Refute it at one input. -/
def reviewRisesWrong : ChangeSpec := { name := "reviewRises", fn := fun _ => fun
  | [d1, d2] => { results := [.lit (.bool false)], args := [d1, d2] }
  | _ => none }
def ReviewRisesWrongFalsely : Prop := reviewRisesRow.holds Try.pinned (OpenSpec.ofChange reviewRisesWrong)

/-- 'paraventlaw27.ReviewSafe': WHATEVER THE INPUT: true; the input reads as it did. -/
def reviewSafeSpec : ChangeSpec := { name := "reviewSafe", fn := fun _ => fun
  | [d1, d2, d3, d4] => { results := [.lit (.bool true)], args := [d1, d2, d3, d4] }
  | _ => none }
def reviewSafeRow : OpenClaim := { program := "ytbcfoakceloenaa", sum := "2f9e96e754f9eaea334961caa64c3179ac5925f417c335d301bdea9daff23e87", func := "paravent/paraventlaw27.ReviewSafe", spec := "reviewSafe", unfollowed := true, recurses := true, plainKeys := false, apart := false }
def ReviewSafeSaid : Prop := reviewSafeRow.holds Try.pinned (OpenSpec.ofChange reviewSafeSpec)

/-- ITS FALSE NEIGHBOUR: 'it returns false'. Refute it at one input. -/
def reviewSafeWrong : ChangeSpec := { name := "reviewSafe", fn := fun _ => fun
  | [d1, d2, d3, d4] => { results := [.lit (.bool false)], args := [d1, d2, d3, d4] }
  | _ => none }
def ReviewSafeWrongFalsely : Prop := reviewSafeRow.holds Try.pinned (OpenSpec.ofChange reviewSafeWrong)

/-- 'paraventlaw27.ReviewIdle': WHATEVER THE INPUT: true; the input reads as it did. -/
def reviewIdleSpec : ChangeSpec := { name := "reviewIdle", fn := fun _ => fun
  | [d1, d2] => { results := [.lit (.bool true)], args := [d1, d2] }
  | _ => none }
def reviewIdleRow : OpenClaim := { program := "ytbcfoakceloenaa", sum := "2f9e96e754f9eaea334961caa64c3179ac5925f417c335d301bdea9daff23e87", func := "paravent/paraventlaw27.ReviewIdle", spec := "reviewIdle", unfollowed := true, recurses := true, plainKeys := false, apart := false }
def ReviewIdleSaid : Prop := reviewIdleRow.holds Try.pinned (OpenSpec.ofChange reviewIdleSpec)

/-- ITS FALSE NEIGHBOUR: 'it returns false'. Refute it at one input. -/
def reviewIdleWrong : ChangeSpec := { name := "reviewIdle", fn := fun _ => fun
  | [d1, d2] => { results := [.lit (.bool false)], args := [d1, d2] }
  | _ => none }
def ReviewIdleWrongFalsely : Prop := reviewIdleRow.holds Try.pinned (OpenSpec.ofChange reviewIdleWrong)

/-- 'paraventlaw27.ReviewAreas': WHATEVER THE INPUT: true; the input reads as it did. -/
def reviewAreasSpec : ChangeSpec := { name := "reviewAreas", fn := fun _ => fun
  | [d1, d2] => { results := [.lit (.bool true)], args := [d1, d2] }
  | _ => none }
def reviewAreasRow : OpenClaim := { program := "ytbcfoakceloenaa", sum := "2f9e96e754f9eaea334961caa64c3179ac5925f417c335d301bdea9daff23e87", func := "paravent/paraventlaw27.ReviewAreas", spec := "reviewAreas", unfollowed := true, recurses := true, plainKeys := false, apart := false }
def ReviewAreasSaid : Prop := reviewAreasRow.holds Try.pinned (OpenSpec.ofChange reviewAreasSpec)

/-- ITS FALSE NEIGHBOUR: 'it returns false'. Refute it at one input. -/
def reviewAreasWrong : ChangeSpec := { name := "reviewAreas", fn := fun _ => fun
  | [d1, d2] => { results := [.lit (.bool false)], args := [d1, d2] }
  | _ => none }
def ReviewAreasWrongFalsely : Prop := reviewAreasRow.holds Try.pinned (OpenSpec.ofChange reviewAreasWrong)

/-- 'paraventlaw27.ReviewLong': WHATEVER THE INPUT: true; the input reads as it did. -/
def reviewLongSpec : ChangeSpec := { name := "reviewLong", fn := fun _ => fun
  | [d1, d2] => { results := [.lit (.bool true)], args := [d1, d2] }
  | _ => none }
def reviewLongRow : OpenClaim := { program := "ytbcfoakceloenaa", sum := "2f9e96e754f9eaea334961caa64c3179ac5925f417c335d301bdea9daff23e87", func := "paravent/paraventlaw27.ReviewLong", spec := "reviewLong", unfollowed := true, recurses := true, plainKeys := false, apart := false }
def ReviewLongSaid : Prop := reviewLongRow.holds Try.pinned (OpenSpec.ofChange reviewLongSpec)

/-- ITS FALSE NEIGHBOUR: 'it returns false'. Refute it at one input. -/
def reviewLongWrong : ChangeSpec := { name := "reviewLong", fn := fun _ => fun
  | [d1, d2] => { results := [.lit (.bool false)], args := [d1, d2] }
  | _ => none }
def ReviewLongWrongFalsely : Prop := reviewLongRow.holds Try.pinned (OpenSpec.ofChange reviewLongWrong)

/- THE SECOND FORM. 'bulk': how many values and letters a reading holds, each counted each time it is reached (what is shared counts as often as it is met; a slice's spare places count too). A statement '..UptoSaid' is the law's where the arguments, and the package variables that the reading takes, are together of bulk at most 1048576: NARROWER than '..Said'. Prove '..Said' where nothing that the law and all that it calls make is longer than what came in: it says more and counts as full. Else prove '..UptoSaid'. A law counts once. -/
mutual
def uptoBulk {H : Type} : DataW H → Nat
  | .lit (.string bytes) => bytes.length + 1
  | .lit _ => 1
  | .nil => 1
  | .ptr d => uptoBulk d + 1
  | .slice elems spare => uptoBulkAll elems + uptoBulkAll spare + 1
  | .agg parts => uptoBulkAll parts + 1
  | .iface _ d => uptoBulk d + 1
  | .map entries => uptoBulkEntries entries + 1
  | .held _ => 1
def uptoBulkAll {H : Type} : List (DataW H) → Nat
  | [] => 0
  | d :: r => uptoBulk d + uptoBulkAll r
def uptoBulkEntries {H : Type} : List (Lit × DataW H) → Nat
  | [] => 0
  | x :: r => uptoBulkEntry x + uptoBulkEntries r
def uptoBulkEntry {H : Type} : Lit × DataW H → Nat
  | (.string bytes, d) => bytes.length + uptoBulk d + 1
  | (_, d) => uptoBulk d + 1
 end
def uptoSmall : (H : Type) → List (DataW H) → Bool := fun _ ds => decide (uptoBulkAll ds ≤ 1048576)
def OpenSpec.upto (s : _root_.Go.ChangeSpec) : _root_.Go.OpenSpec := { _root_.Go.OpenSpec.ofChange s with cond := some uptoSmall }

/-- 'paraventlaw27.ReviewChanges', WHERE WHAT IT READS IS OF BULK AT MOST 1048576: true; the input reads as it did. -/
def reviewChangesUptoRow : OpenClaim := { program := "ytbcfoakceloenaa", sum := "2f9e96e754f9eaea334961caa64c3179ac5925f417c335d301bdea9daff23e87", func := "paravent/paraventlaw27.ReviewChanges", spec := "reviewChanges", unfollowed := true, recurses := true, plainKeys := false, apart := false, narrowed := true }
def ReviewChangesUptoSaid : Prop := reviewChangesUptoRow.holds Try.pinned (OpenSpec.upto reviewChangesSpec)

/-- 'paraventlaw27.ReviewPoints', WHERE WHAT IT READS IS OF BULK AT MOST 1048576: true; the input reads as it did. -/
def reviewPointsUptoRow : OpenClaim := { program := "ytbcfoakceloenaa", sum := "2f9e96e754f9eaea334961caa64c3179ac5925f417c335d301bdea9daff23e87", func := "paravent/paraventlaw27.ReviewPoints", spec := "reviewPoints", unfollowed := true, recurses := true, plainKeys := false, apart := false, narrowed := true }
def ReviewPointsUptoSaid : Prop := reviewPointsUptoRow.holds Try.pinned (OpenSpec.upto reviewPointsSpec)

/-- 'paraventlaw27.ReviewBack', WHERE WHAT IT READS IS OF BULK AT MOST 1048576: true; the input reads as it did. -/
def reviewBackUptoRow : OpenClaim := { program := "ytbcfoakceloenaa", sum := "2f9e96e754f9eaea334961caa64c3179ac5925f417c335d301bdea9daff23e87", func := "paravent/paraventlaw27.ReviewBack", spec := "reviewBack", unfollowed := true, recurses := true, plainKeys := false, apart := false, narrowed := true }
def ReviewBackUptoSaid : Prop := reviewBackUptoRow.holds Try.pinned (OpenSpec.upto reviewBackSpec)

/-- 'paraventlaw27.ReviewRises', WHERE WHAT IT READS IS OF BULK AT MOST 1048576: true; the input reads as it did. -/
def reviewRisesUptoRow : OpenClaim := { program := "ytbcfoakceloenaa", sum := "2f9e96e754f9eaea334961caa64c3179ac5925f417c335d301bdea9daff23e87", func := "paravent/paraventlaw27.ReviewRises", spec := "reviewRises", unfollowed := true, recurses := true, plainKeys := false, apart := false, narrowed := true }
def ReviewRisesUptoSaid : Prop := reviewRisesUptoRow.holds Try.pinned (OpenSpec.upto reviewRisesSpec)

/-- 'paraventlaw27.ReviewSafe', WHERE WHAT IT READS IS OF BULK AT MOST 1048576: true; the input reads as it did. -/
def reviewSafeUptoRow : OpenClaim := { program := "ytbcfoakceloenaa", sum := "2f9e96e754f9eaea334961caa64c3179ac5925f417c335d301bdea9daff23e87", func := "paravent/paraventlaw27.ReviewSafe", spec := "reviewSafe", unfollowed := true, recurses := true, plainKeys := false, apart := false, narrowed := true }
def ReviewSafeUptoSaid : Prop := reviewSafeUptoRow.holds Try.pinned (OpenSpec.upto reviewSafeSpec)

/-- 'paraventlaw27.ReviewIdle', WHERE WHAT IT READS IS OF BULK AT MOST 1048576: true; the input reads as it did. -/
def reviewIdleUptoRow : OpenClaim := { program := "ytbcfoakceloenaa", sum := "2f9e96e754f9eaea334961caa64c3179ac5925f417c335d301bdea9daff23e87", func := "paravent/paraventlaw27.ReviewIdle", spec := "reviewIdle", unfollowed := true, recurses := true, plainKeys := false, apart := false, narrowed := true }
def ReviewIdleUptoSaid : Prop := reviewIdleUptoRow.holds Try.pinned (OpenSpec.upto reviewIdleSpec)

/-- 'paraventlaw27.ReviewAreas', WHERE WHAT IT READS IS OF BULK AT MOST 1048576: true; the input reads as it did. -/
def reviewAreasUptoRow : OpenClaim := { program := "ytbcfoakceloenaa", sum := "2f9e96e754f9eaea334961caa64c3179ac5925f417c335d301bdea9daff23e87", func := "paravent/paraventlaw27.ReviewAreas", spec := "reviewAreas", unfollowed := true, recurses := true, plainKeys := false, apart := false, narrowed := true }
def ReviewAreasUptoSaid : Prop := reviewAreasUptoRow.holds Try.pinned (OpenSpec.upto reviewAreasSpec)

/-- 'paraventlaw27.ReviewLong', WHERE WHAT IT READS IS OF BULK AT MOST 1048576: true; the input reads as it did. -/
def reviewLongUptoRow : OpenClaim := { program := "ytbcfoakceloenaa", sum := "2f9e96e754f9eaea334961caa64c3179ac5925f417c335d301bdea9daff23e87", func := "paravent/paraventlaw27.ReviewLong", spec := "reviewLong", unfollowed := true, recurses := true, plainKeys := false, apart := false, narrowed := true }
def ReviewLongUptoSaid : Prop := reviewLongUptoRow.holds Try.pinned (OpenSpec.upto reviewLongSpec)

end Rows
end Go.Proofs.Ytbcfoakceloenaa
