/- Regions: a known answer; the program's forms are the document's. -/
import Derived.Test.YtoooldijnilpaaaVl
namespace Go.Proofs.Ytoooldijnilpaaa
set_option linter.all false
open Go.RowKit AM Can
set_option maxRecDepth 10000
attribute [local simp] aw_skip' aw_region' aw_seq' aw_cond' aw_block' aw_loop' aw_exit' aw_label' aw_ret' aops_nil' aops_cons' aop' aMove aAssign aPick aAlloc aBox aBuild aBuildSlice aLoad aLoadOwn aStore aStoreOwn isOwn delR aNilCheck aBin aMakeFunc aFieldAddr aField aIndexAddr aExtract aSliceOp aSlice aCallOp aCall' aLen aLenMap aDelete aMM aUn aConv aIface aAssert aMakeMap aLookup aMapUpdate aRange aNext aEntry entsOf keyB lookV aAppend putK layK eval evalV AM.valOf getF putF setF del SV.refers cellsAt rootSV plains shift ldV V.exact V.exactL V.ofValue V.ofPart V.ofCell V.cells V.one Value.oneCell' fitB qSeq qBlock getB afin aret resVs resV resTmps shareF evalS tupV valsS valsV pickV calm calmB lenV useOf feeds looks isT newsV partsV fillV putAt zerosV fitsNil nilB isEq isNeq awx_skip' awx_region' awx_seq' awx_cond' awx_block' awx_loop' awx_exit' awx_label' awx_ret' xops_nil' xops_cons' xop' xload xcall' addO delO inO putD memB Mix.effB Mix.laysB keysF badK subW weakV zeroRow yops_nil' yops_cons' yop' yload yindex yfield ylen oldO dropO takeO oldL exactB
attribute [local simp] awz_skip' awz_region' awz_seq' awz_cond' awz_block' awz_loop' awz_exit' awz_label' awz_ret' zops_nil' zops_cons' zop' zload zcall' z0 new0 remF old0 dltB

theorem boolEq {x y : Operand} {u v : Bool} : binR Try.prog .eql 4 x y (.bool u) (.bool v) = some (.bool (u == v)) := by cases u <;> cases v <;> kernel_rfl
def l0 : List Re := [⟨0, 0, 3, 3⟩, ⟨2, 2, 5, 5⟩]
def l1 : List Re := [⟨0, 0, 3, 1⟩, ⟨0, 2, 5, 3⟩, ⟨2, 4, 5, 5⟩]
theorem un0 : unL l0 = l1 := by decide +kernel
theorem wrong0 : wrongR l0 = 0 := by decide +kernel
theorem area1 : areaL l1 = 28 := by decide +kernel
theorem lknown : PFn Try.prog 34 [] (.sc (.bool true)) := by
  have h1 := rUnion l0
  have h2 := rArea l0
  have h3 := refSameRects l1 l1 (by decide)
  have c1 := pairV_closed l1 0
  rw [un0, wrong0] at h1 h2
  rw [area1] at h2
  rw [decide_eq_true rfl] at h3
  refine AFn.intro (fn := Try.f34) (by kernel_rfl) rfl (by kernel_rfl) (by simp) (AW.ofx [] mixed (by kernel_rfl) ?_)
  simp only [Try.f34, argsF]
  simp
  refine callK.pure h1 rfl c1 ?_
  simp [pairV]
  refine callK.pure h2 rfl rfl ?_
  simp [areaV]
  refine callK.pure h3 rfl rfl ?_
  simp
theorem refFormL (a b : List Re) (how : Int) (ha : wrongR a = 0) (hb : wrongR b = 0) : PFn Try.prog 44 [slR a, slR b, .sc (.int .i64 how)] (slR ((formL (how3 how) a b).map toRe)) := by
  have h1 := wrongR_ok.1 ha
  have h2 := wrongR_ok.1 hb
  have h := refForm a b how (by omega) (by omega) h1.2 h2.2
  rw [outK_form] at h
  exact h
theorem how0 : how3 0 = orB := by
  funext p q
  rfl
theorem how1 : how3 1 = lessB := by
  funext p q
  rfl
theorem how2 : how3 2 = andB := by
  funext p q
  rfl
theorem wrong_nil : wrongR [] = 0 := by decide
theorem sameU (l : List Re) {x : List Re} (h : l = x) (hl : l.length ≤ 1000000000) : PFn Try.prog 38 [slR l, slR x] (.sc (.bool true)) := by
  have := refSameRects l x hl
  rw [decide_eq_true h] at this
  exact this
end Go.Proofs.Ytoooldijnilpaaa
