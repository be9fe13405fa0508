/-
  No cell of these rows narrows 'for every input' (looked for: loops, veiled, ifaces, maps, wideKeys, modest, calm, conditions, laid).
  DERIVED. THE GIVEN ROWS OF THIS SEAT. 8 by the template 'for every input the law returns true; each argument reads behind the call as it read before'; 0 by the template 'total and deterministic' (their statements: YtnconfggojpkcaaGreatTotals.lean).
  GIVEN WITH THE SEED: the statements are not yours to turn. If you find one false, say at which input.
  Laid BY PROGRAM, IN A SANDBOX (cutbox-rows.mjs): the forced cells as the released guide's own fill.sh prints them over the translation 6fb37c7d4ce7babb… (all of the seat's roots in one cut). By AI agents, Wed Nov 11 2026. No macro, syntax, notation, axiom, sorry.
-/
import Derived.Test.YtnconfggojpkcaaGreatChecked
import GoSem.Claim
import GoSem.ClaimJoined
import GoSem.ClaimMapViews
import Derived.JoinedTies
import Derived.KernelRfl
namespace Go.Proofs.YtnconfggojpkcaaGreat
/- THE CELL 'sum', in the pinned program and in every row, IS THE sha256 OF THE DUMP (.gsa) THAT YtnconfggojpkcaaGreatProg.lean LOADS. Nothing in Lean hashes anything: it is a label: what it is worth is what the hold of that sum in a sandbox is worth. -/
noncomputable def Tryz.pinned : Pinned := { name := "ytnconfggojpkcaagreat", sum := "6fb37c7d4ce7babb03fbb14c934f8f7c15d146facefbd63f722cf250e2df7861", checked := Tryz.checked }
namespace Rows
def none {H : Type} : Left H := { results := [], args := [] }

/-- 'paraventlaw21.PlanBlind': WHATEVER THE INPUT: true; the input reads as it did. -/
def planBlindSpec : ChangeSpec := { name := "planBlind", fn := fun _ => fun
  | [d1, d2, d3] => { results := [.lit (.bool true)], args := [d1, d2, d3] }
  | _ => none }
def planBlindRow : OpenClaim := { program := "ytnconfggojpkcaagreat", sum := "6fb37c7d4ce7babb03fbb14c934f8f7c15d146facefbd63f722cf250e2df7861", func := "paravent/paraventlaw21.PlanBlind", spec := "planBlind", inPlace := ["internal/reflectlite.ValueOf", "internal/reflectlite.Swapper", "(internal/reflectlite.Value).Len"], unfollowed := true, recurses := true, plainKeys := false, apart := false }
def PlanBlindSaid : Prop := planBlindRow.holds Tryz.pinned (OpenSpec.ofChange planBlindSpec)

/-- ITS FALSE NEIGHBOUR: 'it returns false'. Refute it at one input. -/
def planBlindWrong : ChangeSpec := { name := "planBlind", fn := fun _ => fun
  | [d1, d2, d3] => { results := [.lit (.bool false)], args := [d1, d2, d3] }
  | _ => none }
def PlanBlindWrongFalsely : Prop := planBlindRow.holds Tryz.pinned (OpenSpec.ofChange planBlindWrong)

/-- 'paraventlaw21.PlanSees': WHATEVER THE INPUT: true; the input reads as it did. -/
def planSeesSpec : ChangeSpec := { name := "planSees", fn := fun _ => fun
  | [d1, d2, d3] => { results := [.lit (.bool true)], args := [d1, d2, d3] }
  | _ => none }
def planSeesRow : OpenClaim := { program := "ytnconfggojpkcaagreat", sum := "6fb37c7d4ce7babb03fbb14c934f8f7c15d146facefbd63f722cf250e2df7861", func := "paravent/paraventlaw21.PlanSees", spec := "planSees", inPlace := ["internal/reflectlite.ValueOf", "internal/reflectlite.Swapper", "(internal/reflectlite.Value).Len"], unfollowed := true, recurses := true, plainKeys := false, apart := false }
def PlanSeesSaid : Prop := planSeesRow.holds Tryz.pinned (OpenSpec.ofChange planSeesSpec)

/-- ITS FALSE NEIGHBOUR: 'it returns false'. Refute it at one input. -/
def planSeesWrong : ChangeSpec := { name := "planSees", fn := fun _ => fun
  | [d1, d2, d3] => { results := [.lit (.bool false)], args := [d1, d2, d3] }
  | _ => none }
def PlanSeesWrongFalsely : Prop := planSeesRow.holds Tryz.pinned (OpenSpec.ofChange planSeesWrong)

/-- 'paraventlaw21.PlanNarrows': WHATEVER THE INPUT: true; the input reads as it did. -/
def planNarrowsSpec : ChangeSpec := { name := "planNarrows", fn := fun _ => fun
  | [d1, d2, d3, d4] => { results := [.lit (.bool true)], args := [d1, d2, d3, d4] }
  | _ => none }
def planNarrowsRow : OpenClaim := { program := "ytnconfggojpkcaagreat", sum := "6fb37c7d4ce7babb03fbb14c934f8f7c15d146facefbd63f722cf250e2df7861", func := "paravent/paraventlaw21.PlanNarrows", spec := "planNarrows", inPlace := ["internal/reflectlite.ValueOf", "internal/reflectlite.Swapper", "(internal/reflectlite.Value).Len"], unfollowed := true, recurses := true, plainKeys := false, apart := false }
def PlanNarrowsSaid : Prop := planNarrowsRow.holds Tryz.pinned (OpenSpec.ofChange planNarrowsSpec)

/-- ITS FALSE NEIGHBOUR: 'it returns false'. Refute it at one input. -/
def planNarrowsWrong : ChangeSpec := { name := "planNarrows", fn := fun _ => fun
  | [d1, d2, d3, d4] => { results := [.lit (.bool false)], args := [d1, d2, d3, d4] }
  | _ => none }
def PlanNarrowsWrongFalsely : Prop := planNarrowsRow.holds Tryz.pinned (OpenSpec.ofChange planNarrowsWrong)

/-- 'paraventlaw21.PlanWindows': WHATEVER THE INPUT: true; the input reads as it did. -/
def planWindowsSpec : ChangeSpec := { name := "planWindows", fn := fun _ => fun
  | [d1, d2, d3] => { results := [.lit (.bool true)], args := [d1, d2, d3] }
  | _ => none }
def planWindowsRow : OpenClaim := { program := "ytnconfggojpkcaagreat", sum := "6fb37c7d4ce7babb03fbb14c934f8f7c15d146facefbd63f722cf250e2df7861", func := "paravent/paraventlaw21.PlanWindows", spec := "planWindows", inPlace := ["internal/reflectlite.ValueOf", "internal/reflectlite.Swapper", "(internal/reflectlite.Value).Len"], unfollowed := true, recurses := true, plainKeys := false, apart := false }
def PlanWindowsSaid : Prop := planWindowsRow.holds Tryz.pinned (OpenSpec.ofChange planWindowsSpec)

/-- ITS FALSE NEIGHBOUR: 'it returns false'. Refute it at one input. -/
def planWindowsWrong : ChangeSpec := { name := "planWindows", fn := fun _ => fun
  | [d1, d2, d3] => { results := [.lit (.bool false)], args := [d1, d2, d3] }
  | _ => none }
def PlanWindowsWrongFalsely : Prop := planWindowsRow.holds Tryz.pinned (OpenSpec.ofChange planWindowsWrong)

/-- 'paraventlaw21.PlanNears': WHATEVER THE INPUT: true; the input reads as it did. -/
def planNearsSpec : ChangeSpec := { name := "planNears", fn := fun _ => fun
  | [d1, d2, d3] => { results := [.lit (.bool true)], args := [d1, d2, d3] }
  | _ => none }
def planNearsRow : OpenClaim := { program := "ytnconfggojpkcaagreat", sum := "6fb37c7d4ce7babb03fbb14c934f8f7c15d146facefbd63f722cf250e2df7861", func := "paravent/paraventlaw21.PlanNears", spec := "planNears", inPlace := ["internal/reflectlite.ValueOf", "internal/reflectlite.Swapper", "(internal/reflectlite.Value).Len"], unfollowed := true, recurses := true, plainKeys := false, apart := false }
def PlanNearsSaid : Prop := planNearsRow.holds Tryz.pinned (OpenSpec.ofChange planNearsSpec)

/-- ITS FALSE NEIGHBOUR: 'it returns false'. Refute it at one input. -/
def planNearsWrong : ChangeSpec := { name := "planNears", fn := fun _ => fun
  | [d1, d2, d3] => { results := [.lit (.bool false)], args := [d1, d2, d3] }
  | _ => none }
def PlanNearsWrongFalsely : Prop := planNearsRow.holds Tryz.pinned (OpenSpec.ofChange planNearsWrong)

/-- 'paraventlaw21.PlanFirst': WHATEVER THE INPUT: true; the input reads as it did. -/
def planFirstSpec : ChangeSpec := { name := "planFirst", fn := fun _ => fun
  | [d1, d2, d3, d4] => { results := [.lit (.bool true)], args := [d1, d2, d3, d4] }
  | _ => none }
def planFirstRow : OpenClaim := { program := "ytnconfggojpkcaagreat", sum := "6fb37c7d4ce7babb03fbb14c934f8f7c15d146facefbd63f722cf250e2df7861", func := "paravent/paraventlaw21.PlanFirst", spec := "planFirst", inPlace := ["internal/reflectlite.ValueOf", "internal/reflectlite.Swapper", "(internal/reflectlite.Value).Len"], unfollowed := true, recurses := true, plainKeys := false, apart := false }
def PlanFirstSaid : Prop := planFirstRow.holds Tryz.pinned (OpenSpec.ofChange planFirstSpec)

/-- ITS FALSE NEIGHBOUR: 'it returns false'. Refute it at one input. -/
def planFirstWrong : ChangeSpec := { name := "planFirst", fn := fun _ => fun
  | [d1, d2, d3, d4] => { results := [.lit (.bool false)], args := [d1, d2, d3, d4] }
  | _ => none }
def PlanFirstWrongFalsely : Prop := planFirstRow.holds Tryz.pinned (OpenSpec.ofChange planFirstWrong)

/-- 'paraventlaw21.PlanNil': WHATEVER THE INPUT: true; the input reads as it did. -/
def planNilSpec : ChangeSpec := { name := "planNil", fn := fun _ => fun
  | [d1, d2] => { results := [.lit (.bool true)], args := [d1, d2] }
  | _ => none }
def planNilRow : OpenClaim := { program := "ytnconfggojpkcaagreat", sum := "6fb37c7d4ce7babb03fbb14c934f8f7c15d146facefbd63f722cf250e2df7861", func := "paravent/paraventlaw21.PlanNil", spec := "planNil", inPlace := ["internal/reflectlite.ValueOf", "internal/reflectlite.Swapper", "(internal/reflectlite.Value).Len"], unfollowed := true, recurses := true, plainKeys := false, apart := false }
def PlanNilSaid : Prop := planNilRow.holds Tryz.pinned (OpenSpec.ofChange planNilSpec)

/-- ITS FALSE NEIGHBOUR: 'it returns false'. Refute it at one input. -/
def planNilWrong : ChangeSpec := { name := "planNil", fn := fun _ => fun
  | [d1, d2] => { results := [.lit (.bool false)], args := [d1, d2] }
  | _ => none }
def PlanNilWrongFalsely : Prop := planNilRow.holds Tryz.pinned (OpenSpec.ofChange planNilWrong)

/-- 'paraventlaw21.PlanDiscloses': WHATEVER THE INPUT: true; the input reads as it did. -/
def planDisclosesSpec : ChangeSpec := { name := "planDiscloses", fn := fun _ => fun
  | [d1, d2, d3] => { results := [.lit (.bool true)], args := [d1, d2, d3] }
  | _ => none }
def planDisclosesRow : OpenClaim := { program := "ytnconfggojpkcaagreat", sum := "6fb37c7d4ce7babb03fbb14c934f8f7c15d146facefbd63f722cf250e2df7861", func := "paravent/paraventlaw21.PlanDiscloses", spec := "planDiscloses", inPlace := ["internal/reflectlite.ValueOf", "internal/reflectlite.Swapper", "(internal/reflectlite.Value).Len"], unfollowed := true, recurses := true, plainKeys := false, apart := false }
def PlanDisclosesSaid : Prop := planDisclosesRow.holds Tryz.pinned (OpenSpec.ofChange planDisclosesSpec)

/-- ITS FALSE NEIGHBOUR: 'it returns false'. Refute it at one input. -/
def planDisclosesWrong : ChangeSpec := { name := "planDiscloses", fn := fun _ => fun
  | [d1, d2, d3] => { results := [.lit (.bool false)], args := [d1, d2, d3] }
  | _ => none }
def PlanDisclosesWrongFalsely : Prop := planDisclosesRow.holds Tryz.pinned (OpenSpec.ofChange planDisclosesWrong)

/- THE SECOND FORM. 'bulk': how many values and letters a reading holds, each counted each time it is reached (what is shared counts as often as it is met; a slice's spare places count too). A statement '..UptoSaid' is the law's where the arguments, and the package variables that the reading takes, are together of bulk at most 1048576: NARROWER than '..Said'. Prove '..Said' where nothing that the law and all that it calls make is longer than what came in: it says more and counts as full. Else prove '..UptoSaid'. A law counts once. -/
mutual
def uptoBulk {H : Type} : DataW H → Nat
  | .lit (.string bytes) => bytes.length + 1
  | .lit _ => 1
  | .nil => 1
  | .ptr d => uptoBulk d + 1
  | .slice elems spare => uptoBulkAll elems + uptoBulkAll spare + 1
  | .agg parts => uptoBulkAll parts + 1
  | .iface _ d => uptoBulk d + 1
  | .map entries => uptoBulkEntries entries + 1
  | .held _ => 1
def uptoBulkAll {H : Type} : List (DataW H) → Nat
  | [] => 0
  | d :: r => uptoBulk d + uptoBulkAll r
def uptoBulkEntries {H : Type} : List (Lit × DataW H) → Nat
  | [] => 0
  | x :: r => uptoBulkEntry x + uptoBulkEntries r
def uptoBulkEntry {H : Type} : Lit × DataW H → Nat
  | (.string bytes, d) => bytes.length + uptoBulk d + 1
  | (_, d) => uptoBulk d + 1
 end
def uptoSmall : (H : Type) → List (DataW H) → Bool := fun _ ds => decide (uptoBulkAll ds ≤ 1048576)
def OpenSpec.upto (s : _root_.Go.ChangeSpec) : _root_.Go.OpenSpec := { _root_.Go.OpenSpec.ofChange s with cond := some uptoSmall }

/-- 'paraventlaw21.PlanBlind', WHERE WHAT IT READS IS OF BULK AT MOST 1048576: true; the input reads as it did. -/
def planBlindUptoRow : OpenClaim := { program := "ytnconfggojpkcaagreat", sum := "6fb37c7d4ce7babb03fbb14c934f8f7c15d146facefbd63f722cf250e2df7861", func := "paravent/paraventlaw21.PlanBlind", spec := "planBlind", inPlace := ["internal/reflectlite.ValueOf", "internal/reflectlite.Swapper", "(internal/reflectlite.Value).Len"], unfollowed := true, recurses := true, plainKeys := false, apart := false, narrowed := true }
def PlanBlindUptoSaid : Prop := planBlindUptoRow.holds Tryz.pinned (OpenSpec.upto planBlindSpec)

/-- 'paraventlaw21.PlanSees', WHERE WHAT IT READS IS OF BULK AT MOST 1048576: true; the input reads as it did. -/
def planSeesUptoRow : OpenClaim := { program := "ytnconfggojpkcaagreat", sum := "6fb37c7d4ce7babb03fbb14c934f8f7c15d146facefbd63f722cf250e2df7861", func := "paravent/paraventlaw21.PlanSees", spec := "planSees", inPlace := ["internal/reflectlite.ValueOf", "internal/reflectlite.Swapper", "(internal/reflectlite.Value).Len"], unfollowed := true, recurses := true, plainKeys := false, apart := false, narrowed := true }
def PlanSeesUptoSaid : Prop := planSeesUptoRow.holds Tryz.pinned (OpenSpec.upto planSeesSpec)

/-- 'paraventlaw21.PlanNarrows', WHERE WHAT IT READS IS OF BULK AT MOST 1048576: true; the input reads as it did. -/
def planNarrowsUptoRow : OpenClaim := { program := "ytnconfggojpkcaagreat", sum := "6fb37c7d4ce7babb03fbb14c934f8f7c15d146facefbd63f722cf250e2df7861", func := "paravent/paraventlaw21.PlanNarrows", spec := "planNarrows", inPlace := ["internal/reflectlite.ValueOf", "internal/reflectlite.Swapper", "(internal/reflectlite.Value).Len"], unfollowed := true, recurses := true, plainKeys := false, apart := false, narrowed := true }
def PlanNarrowsUptoSaid : Prop := planNarrowsUptoRow.holds Tryz.pinned (OpenSpec.upto planNarrowsSpec)

/-- 'paraventlaw21.PlanWindows', WHERE WHAT IT READS IS OF BULK AT MOST 1048576: true; the input reads as it did. -/
def planWindowsUptoRow : OpenClaim := { program := "ytnconfggojpkcaagreat", sum := "6fb37c7d4ce7babb03fbb14c934f8f7c15d146facefbd63f722cf250e2df7861", func := "paravent/paraventlaw21.PlanWindows", spec := "planWindows", inPlace := ["internal/reflectlite.ValueOf", "internal/reflectlite.Swapper", "(internal/reflectlite.Value).Len"], unfollowed := true, recurses := true, plainKeys := false, apart := false, narrowed := true }
def PlanWindowsUptoSaid : Prop := planWindowsUptoRow.holds Tryz.pinned (OpenSpec.upto planWindowsSpec)

/-- 'paraventlaw21.PlanNears', WHERE WHAT IT READS IS OF BULK AT MOST 1048576: true; the input reads as it did. -/
def planNearsUptoRow : OpenClaim := { program := "ytnconfggojpkcaagreat", sum := "6fb37c7d4ce7babb03fbb14c934f8f7c15d146facefbd63f722cf250e2df7861", func := "paravent/paraventlaw21.PlanNears", spec := "planNears", inPlace := ["internal/reflectlite.ValueOf", "internal/reflectlite.Swapper", "(internal/reflectlite.Value).Len"], unfollowed := true, recurses := true, plainKeys := false, apart := false, narrowed := true }
def PlanNearsUptoSaid : Prop := planNearsUptoRow.holds Tryz.pinned (OpenSpec.upto planNearsSpec)

/-- 'paraventlaw21.PlanFirst', WHERE WHAT IT READS IS OF BULK AT MOST 1048576: true; the input reads as it did. -/
def planFirstUptoRow : OpenClaim := { program := "ytnconfggojpkcaagreat", sum := "6fb37c7d4ce7babb03fbb14c934f8f7c15d146facefbd63f722cf250e2df7861", func := "paravent/paraventlaw21.PlanFirst", spec := "planFirst", inPlace := ["internal/reflectlite.ValueOf", "internal/reflectlite.Swapper", "(internal/reflectlite.Value).Len"], unfollowed := true, recurses := true, plainKeys := false, apart := false, narrowed := true }
def PlanFirstUptoSaid : Prop := planFirstUptoRow.holds Tryz.pinned (OpenSpec.upto planFirstSpec)

/-- 'paraventlaw21.PlanNil', WHERE WHAT IT READS IS OF BULK AT MOST 1048576: true; the input reads as it did. -/
def planNilUptoRow : OpenClaim := { program := "ytnconfggojpkcaagreat", sum := "6fb37c7d4ce7babb03fbb14c934f8f7c15d146facefbd63f722cf250e2df7861", func := "paravent/paraventlaw21.PlanNil", spec := "planNil", inPlace := ["internal/reflectlite.ValueOf", "internal/reflectlite.Swapper", "(internal/reflectlite.Value).Len"], unfollowed := true, recurses := true, plainKeys := false, apart := false, narrowed := true }
def PlanNilUptoSaid : Prop := planNilUptoRow.holds Tryz.pinned (OpenSpec.upto planNilSpec)

/-- 'paraventlaw21.PlanDiscloses', WHERE WHAT IT READS IS OF BULK AT MOST 1048576: true; the input reads as it did. -/
def planDisclosesUptoRow : OpenClaim := { program := "ytnconfggojpkcaagreat", sum := "6fb37c7d4ce7babb03fbb14c934f8f7c15d146facefbd63f722cf250e2df7861", func := "paravent/paraventlaw21.PlanDiscloses", spec := "planDiscloses", inPlace := ["internal/reflectlite.ValueOf", "internal/reflectlite.Swapper", "(internal/reflectlite.Value).Len"], unfollowed := true, recurses := true, plainKeys := false, apart := false, narrowed := true }
def PlanDisclosesUptoSaid : Prop := planDisclosesUptoRow.holds Tryz.pinned (OpenSpec.upto planDisclosesSpec)

end Rows
end Go.Proofs.YtnconfggojpkcaaGreat
