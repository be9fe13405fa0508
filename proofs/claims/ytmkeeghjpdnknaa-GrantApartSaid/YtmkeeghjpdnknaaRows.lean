/-
  No cell of these rows narrows 'for every input' (looked for: loops, veiled, ifaces, maps, wideKeys, modest, calm, conditions, laid).
  DERIVED. THE GIVEN ROWS OF THIS SEAT. 7 by the template 'for every input the law returns true; each argument reads behind the call as it read before'; 0 by the template 'total and deterministic' (their statements: YtmkeeghjpdnknaaTotals.lean).
  GIVEN WITH THE SEED: the statements are not yours to turn. If you find one false, say at which input.
  Laid BY PROGRAM, IN A SANDBOX (cutbox-rows.mjs): the forced cells as the released guide's own fill.sh prints them over the translation 87eb00ef6d5002a4… (all of the seat's roots in one cut). By AI agents, Wed Nov 11 2026. No macro, syntax, notation, axiom, sorry.
-/
import Derived.Test.YtmkeeghjpdnknaaChecked
import GoSem.Claim
import GoSem.ClaimJoined
import GoSem.ClaimMapViews
import Derived.JoinedTies
import Derived.KernelRfl
namespace Go.Proofs.Ytmkeeghjpdnknaa
/- THE CELL 'sum', in the pinned program and in every row, IS THE sha256 OF THE DUMP (.gsa) THAT YtmkeeghjpdnknaaProg.lean LOADS. Nothing in Lean hashes anything: it is a label: what it is worth is what the hold of that sum in a sandbox is worth. -/
noncomputable def Try.pinned : Pinned := { name := "ytmkeeghjpdnknaa", sum := "87eb00ef6d5002a415bdd4a72eb42f752637581cdd184148a94f43ff122a06d1", checked := Try.checked }
namespace Rows
def none {H : Type} : Left H := { results := [], args := [] }

/-- 'paraventlaw14.GrantApart': WHATEVER THE INPUT: true; the input reads as it did. -/
def grantApartSpec : ChangeSpec := { name := "grantApart", fn := fun _ => fun
  | [d1, d2] => { results := [.lit (.bool true)], args := [d1, d2] }
  | _ => none }
def grantApartRow : OpenClaim := { program := "ytmkeeghjpdnknaa", sum := "87eb00ef6d5002a415bdd4a72eb42f752637581cdd184148a94f43ff122a06d1", func := "paravent/paraventlaw14.GrantApart", spec := "grantApart", unfollowed := true, recurses := true, plainKeys := false, apart := false }
def GrantApartSaid : Prop := grantApartRow.holds Try.pinned (OpenSpec.ofChange grantApartSpec)

/-- ITS FALSE NEIGHBOUR: 'it returns false'. Refute it at one input. -/
def grantApartWrong : ChangeSpec := { name := "grantApart", fn := fun _ => fun
  | [d1, d2] => { results := [.lit (.bool false)], args := [d1, d2] }
  | _ => none }
def GrantApartWrongFalsely : Prop := grantApartRow.holds Try.pinned (OpenSpec.ofChange grantApartWrong)

/-- 'paraventlaw14.GrantShapes': WHATEVER THE INPUT: true; the input reads as it did. -/
def grantShapesSpec : ChangeSpec := { name := "grantShapes", fn := fun _ => fun
  | [d1, d2, d3] => { results := [.lit (.bool true)], args := [d1, d2, d3] }
  | _ => none }
def grantShapesRow : OpenClaim := { program := "ytmkeeghjpdnknaa", sum := "87eb00ef6d5002a415bdd4a72eb42f752637581cdd184148a94f43ff122a06d1", func := "paravent/paraventlaw14.GrantShapes", spec := "grantShapes", unfollowed := true, recurses := true, plainKeys := false, apart := false }
def GrantShapesSaid : Prop := grantShapesRow.holds Try.pinned (OpenSpec.ofChange grantShapesSpec)

/-- ITS FALSE NEIGHBOUR: 'it returns false'. Refute it at one input. -/
def grantShapesWrong : ChangeSpec := { name := "grantShapes", fn := fun _ => fun
  | [d1, d2, d3] => { results := [.lit (.bool false)], args := [d1, d2, d3] }
  | _ => none }
def GrantShapesWrongFalsely : Prop := grantShapesRow.holds Try.pinned (OpenSpec.ofChange grantShapesWrong)

/-- 'paraventlaw14.GrantZooms': WHATEVER THE INPUT: true; the input reads as it did. -/
def grantZoomsSpec : ChangeSpec := { name := "grantZooms", fn := fun _ => fun
  | [d1, d2, d3] => { results := [.lit (.bool true)], args := [d1, d2, d3] }
  | _ => none }
def grantZoomsRow : OpenClaim := { program := "ytmkeeghjpdnknaa", sum := "87eb00ef6d5002a415bdd4a72eb42f752637581cdd184148a94f43ff122a06d1", func := "paravent/paraventlaw14.GrantZooms", spec := "grantZooms", unfollowed := true, recurses := true, plainKeys := false, apart := false }
def GrantZoomsSaid : Prop := grantZoomsRow.holds Try.pinned (OpenSpec.ofChange grantZoomsSpec)

/-- ITS FALSE NEIGHBOUR: 'it returns false'. Refute it at one input. -/
def grantZoomsWrong : ChangeSpec := { name := "grantZooms", fn := fun _ => fun
  | [d1, d2, d3] => { results := [.lit (.bool false)], args := [d1, d2, d3] }
  | _ => none }
def GrantZoomsWrongFalsely : Prop := grantZoomsRow.holds Try.pinned (OpenSpec.ofChange grantZoomsWrong)

/-- 'paraventlaw14.GrantWithin': WHATEVER THE INPUT: true; the input reads as it did. -/
def grantWithinSpec : ChangeSpec := { name := "grantWithin", fn := fun _ => fun
  | [d1, d2, d3, d4] => { results := [.lit (.bool true)], args := [d1, d2, d3, d4] }
  | _ => none }
def grantWithinRow : OpenClaim := { program := "ytmkeeghjpdnknaa", sum := "87eb00ef6d5002a415bdd4a72eb42f752637581cdd184148a94f43ff122a06d1", func := "paravent/paraventlaw14.GrantWithin", spec := "grantWithin", unfollowed := true, recurses := true, plainKeys := false, apart := false }
def GrantWithinSaid : Prop := grantWithinRow.holds Try.pinned (OpenSpec.ofChange grantWithinSpec)

/-- ITS FALSE NEIGHBOUR: 'it returns false'. Refute it at one input. -/
def grantWithinWrong : ChangeSpec := { name := "grantWithin", fn := fun _ => fun
  | [d1, d2, d3, d4] => { results := [.lit (.bool false)], args := [d1, d2, d3, d4] }
  | _ => none }
def GrantWithinWrongFalsely : Prop := grantWithinRow.holds Try.pinned (OpenSpec.ofChange grantWithinWrong)

/-- 'paraventlaw14.GrantLevels': WHATEVER THE INPUT: true; the input reads as it did. -/
def grantLevelsSpec : ChangeSpec := { name := "grantLevels", fn := fun _ => fun
  | [d1, d2] => { results := [.lit (.bool true)], args := [d1, d2] }
  | _ => none }
def grantLevelsRow : OpenClaim := { program := "ytmkeeghjpdnknaa", sum := "87eb00ef6d5002a415bdd4a72eb42f752637581cdd184148a94f43ff122a06d1", func := "paravent/paraventlaw14.GrantLevels", spec := "grantLevels", unfollowed := true, recurses := true, plainKeys := false, apart := false }
def GrantLevelsSaid : Prop := grantLevelsRow.holds Try.pinned (OpenSpec.ofChange grantLevelsSpec)

/-- ITS FALSE NEIGHBOUR: 'it returns false'. Refute it at one input. -/
def grantLevelsWrong : ChangeSpec := { name := "grantLevels", fn := fun _ => fun
  | [d1, d2] => { results := [.lit (.bool false)], args := [d1, d2] }
  | _ => none }
def GrantLevelsWrongFalsely : Prop := grantLevelsRow.holds Try.pinned (OpenSpec.ofChange grantLevelsWrong)

/-- 'paraventlaw14.GrantPatches': WHATEVER THE INPUT: true; the input reads as it did. -/
def grantPatchesSpec : ChangeSpec := { name := "grantPatches", fn := fun _ => fun
  | [d1, d2] => { results := [.lit (.bool true)], args := [d1, d2] }
  | _ => none }
def grantPatchesRow : OpenClaim := { program := "ytmkeeghjpdnknaa", sum := "87eb00ef6d5002a415bdd4a72eb42f752637581cdd184148a94f43ff122a06d1", func := "paravent/paraventlaw14.GrantPatches", spec := "grantPatches", unfollowed := true, recurses := true, plainKeys := false, apart := false }
def GrantPatchesSaid : Prop := grantPatchesRow.holds Try.pinned (OpenSpec.ofChange grantPatchesSpec)

/-- ITS FALSE NEIGHBOUR: 'it returns false'. Refute it at one input. -/
def grantPatchesWrong : ChangeSpec := { name := "grantPatches", fn := fun _ => fun
  | [d1, d2] => { results := [.lit (.bool false)], args := [d1, d2] }
  | _ => none }
def GrantPatchesWrongFalsely : Prop := grantPatchesRow.holds Try.pinned (OpenSpec.ofChange grantPatchesWrong)

/-- 'paraventlaw14.GrantNil': WHATEVER THE INPUT: true; the input reads as it did. -/
def grantNilSpec : ChangeSpec := { name := "grantNil", fn := fun _ => fun
  | [d1, d2, d3] => { results := [.lit (.bool true)], args := [d1, d2, d3] }
  | _ => none }
def grantNilRow : OpenClaim := { program := "ytmkeeghjpdnknaa", sum := "87eb00ef6d5002a415bdd4a72eb42f752637581cdd184148a94f43ff122a06d1", func := "paravent/paraventlaw14.GrantNil", spec := "grantNil", unfollowed := true, recurses := true, plainKeys := false, apart := false }
def GrantNilSaid : Prop := grantNilRow.holds Try.pinned (OpenSpec.ofChange grantNilSpec)

/-- ITS FALSE NEIGHBOUR: 'it returns false'. Refute it at one input. -/
def grantNilWrong : ChangeSpec := { name := "grantNil", fn := fun _ => fun
  | [d1, d2, d3] => { results := [.lit (.bool false)], args := [d1, d2, d3] }
  | _ => none }
def GrantNilWrongFalsely : Prop := grantNilRow.holds Try.pinned (OpenSpec.ofChange grantNilWrong)

/- THE SECOND FORM. 'bulk': how many values and letters a reading holds, each counted each time it is reached (what is shared counts as often as it is met; a slice's spare places count too). A statement '..UptoSaid' is the law's where the arguments, and the package variables that the reading takes, are together of bulk at most 1048576: NARROWER than '..Said'. Prove '..Said' where nothing that the law and all that it calls make is longer than what came in: it says more and counts as full. Else prove '..UptoSaid'. A law counts once. -/
mutual
def uptoBulk {H : Type} : DataW H → Nat
  | .lit (.string bytes) => bytes.length + 1
  | .lit _ => 1
  | .nil => 1
  | .ptr d => uptoBulk d + 1
  | .slice elems spare => uptoBulkAll elems + uptoBulkAll spare + 1
  | .agg parts => uptoBulkAll parts + 1
  | .iface _ d => uptoBulk d + 1
  | .map entries => uptoBulkEntries entries + 1
  | .held _ => 1
def uptoBulkAll {H : Type} : List (DataW H) → Nat
  | [] => 0
  | d :: r => uptoBulk d + uptoBulkAll r
def uptoBulkEntries {H : Type} : List (Lit × DataW H) → Nat
  | [] => 0
  | x :: r => uptoBulkEntry x + uptoBulkEntries r
def uptoBulkEntry {H : Type} : Lit × DataW H → Nat
  | (.string bytes, d) => bytes.length + uptoBulk d + 1
  | (_, d) => uptoBulk d + 1
 end
def uptoSmall : (H : Type) → List (DataW H) → Bool := fun _ ds => decide (uptoBulkAll ds ≤ 1048576)
def OpenSpec.upto (s : _root_.Go.ChangeSpec) : _root_.Go.OpenSpec := { _root_.Go.OpenSpec.ofChange s with cond := some uptoSmall }

/-- 'paraventlaw14.GrantApart', WHERE WHAT IT READS IS OF BULK AT MOST 1048576: true; the input reads as it did. -/
def grantApartUptoRow : OpenClaim := { program := "ytmkeeghjpdnknaa", sum := "87eb00ef6d5002a415bdd4a72eb42f752637581cdd184148a94f43ff122a06d1", func := "paravent/paraventlaw14.GrantApart", spec := "grantApart", unfollowed := true, recurses := true, plainKeys := false, apart := false, narrowed := true }
def GrantApartUptoSaid : Prop := grantApartUptoRow.holds Try.pinned (OpenSpec.upto grantApartSpec)

/-- 'paraventlaw14.GrantShapes', WHERE WHAT IT READS IS OF BULK AT MOST 1048576: true; the input reads as it did. -/
def grantShapesUptoRow : OpenClaim := { program := "ytmkeeghjpdnknaa", sum := "87eb00ef6d5002a415bdd4a72eb42f752637581cdd184148a94f43ff122a06d1", func := "paravent/paraventlaw14.GrantShapes", spec := "grantShapes", unfollowed := true, recurses := true, plainKeys := false, apart := false, narrowed := true }
def GrantShapesUptoSaid : Prop := grantShapesUptoRow.holds Try.pinned (OpenSpec.upto grantShapesSpec)

/-- 'paraventlaw14.GrantZooms', WHERE WHAT IT READS IS OF BULK AT MOST 1048576: true; the input reads as it did. -/
def grantZoomsUptoRow : OpenClaim := { program := "ytmkeeghjpdnknaa", sum := "87eb00ef6d5002a415bdd4a72eb42f752637581cdd184148a94f43ff122a06d1", func := "paravent/paraventlaw14.GrantZooms", spec := "grantZooms", unfollowed := true, recurses := true, plainKeys := false, apart := false, narrowed := true }
def GrantZoomsUptoSaid : Prop := grantZoomsUptoRow.holds Try.pinned (OpenSpec.upto grantZoomsSpec)

/-- 'paraventlaw14.GrantWithin', WHERE WHAT IT READS IS OF BULK AT MOST 1048576: true; the input reads as it did. -/
def grantWithinUptoRow : OpenClaim := { program := "ytmkeeghjpdnknaa", sum := "87eb00ef6d5002a415bdd4a72eb42f752637581cdd184148a94f43ff122a06d1", func := "paravent/paraventlaw14.GrantWithin", spec := "grantWithin", unfollowed := true, recurses := true, plainKeys := false, apart := false, narrowed := true }
def GrantWithinUptoSaid : Prop := grantWithinUptoRow.holds Try.pinned (OpenSpec.upto grantWithinSpec)

/-- 'paraventlaw14.GrantLevels', WHERE WHAT IT READS IS OF BULK AT MOST 1048576: true; the input reads as it did. -/
def grantLevelsUptoRow : OpenClaim := { program := "ytmkeeghjpdnknaa", sum := "87eb00ef6d5002a415bdd4a72eb42f752637581cdd184148a94f43ff122a06d1", func := "paravent/paraventlaw14.GrantLevels", spec := "grantLevels", unfollowed := true, recurses := true, plainKeys := false, apart := false, narrowed := true }
def GrantLevelsUptoSaid : Prop := grantLevelsUptoRow.holds Try.pinned (OpenSpec.upto grantLevelsSpec)

/-- 'paraventlaw14.GrantPatches', WHERE WHAT IT READS IS OF BULK AT MOST 1048576: true; the input reads as it did. -/
def grantPatchesUptoRow : OpenClaim := { program := "ytmkeeghjpdnknaa", sum := "87eb00ef6d5002a415bdd4a72eb42f752637581cdd184148a94f43ff122a06d1", func := "paravent/paraventlaw14.GrantPatches", spec := "grantPatches", unfollowed := true, recurses := true, plainKeys := false, apart := false, narrowed := true }
def GrantPatchesUptoSaid : Prop := grantPatchesUptoRow.holds Try.pinned (OpenSpec.upto grantPatchesSpec)

/-- 'paraventlaw14.GrantNil', WHERE WHAT IT READS IS OF BULK AT MOST 1048576: true; the input reads as it did. -/
def grantNilUptoRow : OpenClaim := { program := "ytmkeeghjpdnknaa", sum := "87eb00ef6d5002a415bdd4a72eb42f752637581cdd184148a94f43ff122a06d1", func := "paravent/paraventlaw14.GrantNil", spec := "grantNil", unfollowed := true, recurses := true, plainKeys := false, apart := false, narrowed := true }
def GrantNilUptoSaid : Prop := grantNilUptoRow.holds Try.pinned (OpenSpec.upto grantNilSpec)

end Rows
end Go.Proofs.Ytmkeeghjpdnknaa
