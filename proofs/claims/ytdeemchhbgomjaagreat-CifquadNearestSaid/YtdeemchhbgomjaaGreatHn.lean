/- Rows of shapes by the document: those that meet a rectangle. -/
import Derived.Test.YtdeemchhbgomjaaGreatHm
namespace Go.Proofs.YtdeemchhbgomjaaGreat
set_option linter.all false
open Go.RowKit AM
set_option maxRecDepth 10000
attribute [local simp] aw_skip' aw_region' aw_seq' aw_cond' aw_block' aw_loop' aw_exit' aw_label' aw_ret' aops_nil' aops_cons' aop' aMove aAssign aPick aAlloc aBox aBuild slF aBuildSlice aLoad aLoadOwn aStore aStoreOwn isOwn delR aNilCheck aBin aMakeFunc aFieldAddr aField aIndexOp aIndex partV aIndexAddr aExtract aSliceOp aSlice aShrink aCallOp aCall' aInvoke' aLen aLenMap aDelete aMM aUn aConv aIface aAssert aMakeMap aLookup aMapUpdate aRange aNext aEntry entsOf keyB seekK aMakeSlice lookV aAppend putK layK eval evalV AM.valOf getF putF setF del SV.refers cellsAt rootSV plains shift ldV V.exact V.exactL V.ofValue V.ofPart V.ofCell V.cells V.one Value.oneCell' fitB qSeq qBlock getB afin aret resVs resV resTmps shareF evalS tupV valsS valsV pickV calm calmB lenV useOf feeds shrinks stows looks isT newsV partsV fillV putAt zerosV fitsNil nilB sliceB isEq isNeq awx_skip' awx_region' awx_seq' awx_cond' awx_block' awx_loop' awx_exit' awx_label' awx_ret' xops_nil' xops_cons' xop' xload xcall' addO delO inO putD memB Mix.effB Mix.laysB keysF badK subW weakV zeroRow yops_nil' yops_cons' yop' yload yindex yfield ylen oldO dropO takeO oldL exactB
attribute [local simp] awz_skip' awz_region' awz_seq' awz_cond' awz_block' awz_loop' awz_exit' awz_label' awz_ret' zops_nil' zops_cons' zop' zload zloadOwn zcall' zlenK z0 new0 remF old0 dltB

def MeI (xs : List Sh) (r : Re) (k : Nat) (F : Fr) (H : List Bk) : Prop := ∃ L, H = reB r :: L ∧ F = [(0, .v (slS xs)), (3, .v (.ptr 0 0)), (5, ownS ((xs.take k).filter fun t => meetsR t.box r)), (6, .v (.sc (.int .i64 k)))]
def MeM (xs : List Sh) (r : Re) (k : Nat) (b : Bool) (F : Fr) (H : List Bk) : Prop := ∃ L, H = reB r :: L ∧ F = [(0, .v (slS xs)), (3, .v (.ptr 0 0)), (5, ownS ((xs.take k).filter fun t => meetsR t.box r)), (6, .v (.sc (.int .i64 k))), (8, .v (.sc (.bool b)))]
end Go.Proofs.YtdeemchhbgomjaaGreat
