/- The common part of two rectangles, by the program and by the document. -/
import Derived.Test.YtmjnffjacgjfmaaGg
namespace Go.Proofs.Ytmjnffjacgjfmaa
set_option linter.all false
open Go.RowKit AM
set_option maxRecDepth 10000
attribute [local simp] aw_skip' aw_region' aw_seq' aw_cond' aw_block' aw_loop' aw_exit' aw_label' aw_ret' aops_nil' aops_cons' aop' aMove aAssign aPick aAlloc aBox aBuild slF aBuildSlice aLoad aLoadOwn aLoadS sharesAt shares sharedV aStore aStoreOwn isOwn delR aNilCheck aBin aMakeFunc aFieldAddr aField aIndexOp aIndex partV aIndexAddr aExtract aSliceOp aSlice slV aShrink aCallOp aCall' aInvoke' aLen aLenMap aDelete aMM aUn aConv aIface aAssert aMakeMap aLookup aMapUpdate aRange aNext aEntry entsOf keyB seekK aMakeSlice lookV aApp aAppendB aAppendF aAppend putK layK eval evalV AM.valOf getF putF setF del SV.refers cellsAt rootSV plains shift ldV V.exact V.exactL V.ofValue V.ofPart V.ofCell V.cells V.one Value.oneCell' fitB qSeq qBlock getB afin aret resVs resV resTmps shareF evalS tupV valsS valsV pickV calm calmB lenV useOf feeds shrinks stows looks isT newsV partsV fillV putAt zerosV fitsNil nilB sliceB isEq isNeq awx_skip' awx_region' awx_seq' awx_cond' awx_block' awx_loop' awx_exit' awx_label' awx_ret' xops_nil' xops_cons' xop' xload xcall' addO delO inO putD memB Mix.effB Mix.laysB keysF badK subW weakV zeroRow yops_nil' yops_cons' yop' yload yindex yfield ylen oldO dropO takeO oldL exactB V.fixed V.fixedL

def meetB (a b : Re) : Re := ⟨max a.x0 b.x0, max a.y0 b.y0, min a.x1 b.x1, min a.y1 b.y1⟩
def reB (r : Re) : Bk := .cells [.v (.sc (.int .i64 r.x0)), .v (.sc (.int .i64 r.y0)), .v (.sc (.int .i64 r.x1)), .v (.sc (.int .i64 r.y1))]
def reZ : Re := ⟨0, 0, 0, 0⟩
def meetP (a b : Re) : Re := if meetsR a b then meetB a b else reZ
def inB (a b : Re) : Bool := rightR a && rightR b && decide (b.x0 ≤ a.x0 ∧ a.x1 ≤ b.x1 ∧ b.y0 ≤ a.y0 ∧ a.y1 ≤ b.y1)
theorem meets_right {a b : Re} (ha : rightR a = true) (hb : rightR b = true) : rightR (meetB a b) = meetsR a b := by
  have h1 := rightR_iff.1 ha
  have h2 := rightR_iff.1 hb
  rw [Bool.eq_iff_iff, rightR_iff]
  simp only [meetsR, ha, hb, meetB, Bool.true_and, decide_eq_true_iff]
  omega
def meetV (a b : Re) : V := .tup [(meetP a b).v, .sc (.bool (meetsR a b))]
def gridR : Re := ⟨0, 0, 65535, 65535⟩
theorem gGrid : PFn Try.prog 48 [] gridR.v := by
  refine AFn.intro (fn := Try.f48) (by kernel_rfl) rfl (by kernel_rfl) (by simp) (AW.ofx [] mixed (by kernel_rfl) ?_)
  simp only [Try.f48, argsF]
  simp [setCells, setBlk, gridR, Re.v, Re.cs]
end Go.Proofs.Ytmjnffjacgjfmaa
