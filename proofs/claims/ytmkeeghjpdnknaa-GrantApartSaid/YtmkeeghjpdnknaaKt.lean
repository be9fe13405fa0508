/- Grant: the law GrantNil, and who is asked for. -/
import Derived.Test.YtmkeeghjpdnknaaKq
import Derived.Test.YtmkeeghjpdnknaaKr1
namespace Go.Proofs.Ytmkeeghjpdnknaa
set_option linter.all false
open Go.RowKit AM Can
open Go.ChangeShapes Go.WideShapes
set_option maxRecDepth 10000
attribute [local simp] aw_skip' aw_region' aw_seq' aw_cond' aw_block' aw_loop' aw_exit' aw_label' aw_ret' aops_nil' aops_cons' aop' aMove aAssign aPick aAlloc aBox aBuild slF aBuildSlice aLoad aLoadOwn aStore aStoreOwn isOwn delR aNilCheck aBin aMakeFunc aFieldAddr aField aIndexAddr aExtract aSliceOp aSlice aCallOp aCall' aLen aLenMap aDelete aMM aUn aConv aIface aAssert aMakeMap aLookup aMapUpdate aRange aNext aEntry entsOf keyB seekK aMakeSlice lookV aAppend putK layK eval evalV AM.valOf getF putF setF del SV.refers cellsAt rootSV plains shift ldV V.exact V.exactL V.ofValue V.ofPart V.ofCell V.cells V.one Value.oneCell' fitB qSeq qBlock getB afin aret resVs resV resTmps shareF evalS tupV valsS valsV pickV calm calmB lenV useOf feeds looks isT newsV partsV fillV putAt zerosV fitsNil nilB sliceB isEq isNeq awx_skip' awx_region' awx_seq' awx_cond' awx_block' awx_loop' awx_exit' awx_label' awx_ret' xops_nil' xops_cons' xop' xload xcall' addO delO inO putD memB Mix.effB Mix.laysB keysF badK subW weakV zeroRow yops_nil' yops_cons' yop' yload yindex yfield ylen oldO dropO takeO oldL exactB
attribute [local simp] awz_skip' awz_region' awz_seq' awz_cond' awz_block' awz_loop' awz_exit' awz_label' awz_ret' zops_nil' zops_cons' zop' zload zcall' z0 new0 remF old0 dltB

structure Wh where
  ro : Int
  ti : Int
  la : Int
  deriving Inhabited
namespace Wh
def cs (a : Wh) : List V := [.sc (.int .i64 a.ro), .sc (.int .i64 a.ti), .sc (.int .i64 a.la)]
def v (a : Wh) : V := .agg a.cs
def vals (a : Wh) : List Value := [.int .i64 a.ro, .int .i64 a.ti, .int .i64 a.la]
end Wh
section
variable {H : Type} {enc : TypeId × Value → H} {w : World} {base : Nat} {held : Bool} {r : Reach} {b0 : Nat} {v : Value} {d : DataW H} {p : List MemPlace}
theorem whLeaves : leavesOf Try.prog 6 24 = some [.int .i64, .int .i64, .int .i64] := by kernel_rfl
theorem wh_of_leaves {cs : List Value} (h : Leaf.all [.int .i64, .int .i64, .int .i64] cs) : ∃ x : Wh, x.vals = cs := by
  obtain ⟨a, _, rfl, _, h⟩ := Leaf.int_cons h
  obtain ⟨b, _, rfl, _, h⟩ := Leaf.int_cons h
  obtain ⟨c, _, rfl, _, h⟩ := Leaf.int_cons h
  obtain rfl := Leaf.all_nil h
  exact ⟨⟨a, b, c⟩, rfl⟩
theorem whArg (hv : Value.okWide Try.prog w r b0 24 v) (h : DataW.Trod enc Try.prog w base (fun _ => true) held 24 v d p) : ∃ x : Wh, Rel (said w) [] x.v v := by
  obtain ⟨cs, rfl, hc⟩ := plain_val Try.underlying24 whLeaves hv h
  obtain ⟨x, rfl⟩ := wh_of_leaves hc
  exact ⟨x, .agg (relL_sc (vs := x.vals))⟩
end
theorem Stays.keep {H H' : List Bk} (h : Stays H H') : keepS H H' := fun _ _ hb _ => h.cells hb
set_option maxHeartbeats 8000000 in
theorem nilLaw (a : Wh) (p : Pt) (r : Re) : AFn Try.prog 9 [a.v, p.v, r.v] [] fun y _ => y = .sc (.bool true) := by
  have h1 := gPatchesN a.ro a.ti a.la
  have h2 := gLevelsN a.ro a.ti
  have h3 := gZoomN a.ro a.ti a.la p
  have h4 := gOfN a.ro a.ti a.la r
  have h5 := gCloaksN a.ro
  have hK := fun H => lknownG H
  have w0 : IntKind.i64.wrap 0 = 0 := by decide
  unfold Pt.v Pt.cs at h3 ⊢
  unfold Re.v Re.cs at h4 ⊢
  unfold Wh.v Wh.cs
  refine AFn.intro (fn := Try.f9) (by kernel_rfl) rfl (by kernel_rfl) (by simp) (AW.ofx [(2, 44, [7, 3, 4, 5])] mixed (by kernel_rfl) ?_)
  simp only [Try.f9, argsF]
  simp
  refine callK.pure h1 rfl rfl ?_
  simp
  refine callK.pure h2 rfl rfl ?_
  simp [w0]
  refine callK.pure h3 rfl rfl ?_
  simp [w0]
  refine callK.pure h4 rfl rfl ?_
  simp [w0]
  refine callK.pure h5 rfl rfl ?_
  simp [w0]
  refine callK.of (hK _) ?_
  rintro y H ⟨rfl, hs⟩
  simp [w0]
end Go.Proofs.Ytmkeeghjpdnknaa
