/- The document's Meet: its regions leave an order open. -/
import Derived.Test.YtmjnffjacgjfmaaBg
import Derived.Test.YtmjnffjacgjfmaaHz
import Derived.Test.YtmjnffjacgjfmaaBh
namespace Go.Proofs.Ytmjnffjacgjfmaa
set_option linter.all false
open Go.RowKit AM
set_option maxRecDepth 10000
attribute [local simp] aw_skip' aw_region' aw_seq' aw_cond' aw_block' aw_loop' aw_exit' aw_label' aw_ret' aops_nil' aops_cons' aop' aMove aAssign aPick aAlloc aBox aBuild slF aBuildSlice aLoad aLoadOwn aLoadS sharesAt shares sharedV aStore aStoreOwn isOwn delR aNilCheck aBin aMakeFunc aFieldAddr aField aIndexOp aIndex partV aIndexAddr aExtract aSliceOp aSlice slV aShrink aCallOp aCall' aInvoke' aLen aLenMap aDelete aMM aUn aConv aIface aAssert aMakeMap aLookup aMapUpdate aRange aNext aEntry entsOf keyB seekK aMakeSlice lookV aApp aAppendB aAppendF aAppend putK layK eval evalV AM.valOf getF putF setF del SV.refers cellsAt rootSV plains shift ldV V.exact V.exactL V.ofValue V.ofPart V.ofCell V.cells V.one Value.oneCell' fitB qSeq qBlock getB afin aret resVs resV resTmps shareF evalS tupV valsS valsV pickV calm calmB lenV useOf feeds shrinks stows looks isT newsV partsV fillV putAt zerosV fitsNil nilB sliceB isEq isNeq awx_skip' awx_region' awx_seq' awx_cond' awx_block' awx_loop' awx_exit' awx_label' awx_ret' xops_nil' xops_cons' xop' xload xcall' addO delO inO putD memB Mix.effB Mix.laysB keysF badK subW weakV zeroRow yops_nil' yops_cons' yop' yload yindex yfield ylen oldO dropO takeO oldL exactB V.fixed V.fixedL
attribute [local simp] awz_skip' awz_region' awz_seq' awz_cond' awz_block' awz_loop' awz_exit' awz_label' awz_ret' zops_nil' zops_cons' zop' zload zloadOwn zcall' zlenK z0 new0 remF old0 dltB

def MtI (a b : Re) (F : Fr) (H : List Bk) : Prop := F = [(2, .v (.ptr 0 0)), (3, .v (.ptr 1 0)), (4, .v (.ptr 2 0)), (5, .v (.sc (.bool false))), (6, .v (.ptr 3 0))] ∧ H = [reB a, reB b, reB reZ, reB (meetB a b)]
theorem meets_bool (a b : Re) : meetsR a b = (rightR a && (rightR b && rightR (meetB a b))) := by
  cases ha : rightR a with
  | false => simp [meetsR, ha]
  | true =>
    cases hb : rightR b with
    | false => simp [meetsR, ha, hb]
    | true => simp [meets_right ha hb]
end Go.Proofs.Ytmjnffjacgjfmaa
