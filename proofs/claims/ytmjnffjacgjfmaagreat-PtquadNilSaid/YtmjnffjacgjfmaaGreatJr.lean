/- The shape by the document; trees that are built of a row of records. -/
import Derived.Test.YtmjnffjacgjfmaaGreatJq1
namespace Go.Proofs.YtmjnffjacgjfmaaGreat
set_option linter.all false
open Go.RowKit AM
set_option maxRecDepth 10000
attribute [local simp] aw_skip' aw_region' aw_seq' aw_cond' aw_block' aw_loop' aw_exit' aw_label' aw_ret' aops_nil' aops_cons' aop' aMove aAssign aPick aAlloc aBox aBuild slF aBuildSlice aLoad aLoadOwn aLoadS sharesAt shares sharedV aStore aStoreOwn isOwn delR aNilCheck aBin aMakeFunc aFieldAddr aField aIndexOp aIndex partV aIndexAddr aExtract aSliceOp aSlice slV aShrink aCallOp aCall' aInvoke' aLen aLenMap aDelete aMM aUn aConv aIface aAssert aMakeMap aLookup aMapUpdate aRange aNext aEntry entsOf keyB seekK aMakeSlice lookV aApp aAppendB aAppendF aAppend putK layK eval evalV AM.valOf getF putF setF del SV.refers cellsAt rootSV plains shift ldV V.exact V.exactL V.ofValue V.ofPart V.ofCell V.cells V.one Value.oneCell' fitB qSeq qBlock getB afin aret resVs resV resTmps shareF evalS tupV valsS valsV pickV calm calmB lenV useOf feeds shrinks stows looks isT newsV partsV fillV putAt zerosV fitsNil nilB sliceB isEq isNeq awx_skip' awx_region' awx_seq' awx_cond' awx_block' awx_loop' awx_exit' awx_label' awx_ret' xops_nil' xops_cons' xop' xload xcall' addO delO inO putD memB Mix.effB Mix.laysB keysF badK subW weakV zeroRow yops_nil' yops_cons' yop' yload yindex yfield ylen oldO dropO takeO oldL exactB
attribute [local simp] awz_skip' awz_region' awz_seq' awz_cond' awz_block' awz_loop' awz_exit' awz_label' awz_ret' zops_nil' zops_cons' zop' zload zloadOwn zcall' zlenK z0 new0 remF old0 dltB
theorem prv_eq (s : Pr) : s.v = .agg [.sc (.int .i64 s.id), .sc (.int .i64 s.at_.x), .sc (.int .i64 s.at_.y), .sc (.int .i64 s.lab)] := rfl
def fndQ (S : List Pr) (k : Int) : Pr := (pfnd S k).getD zeroP
def hasQ (S : List Pr) (k : Int) : Bool := (pfnd S k).isSome
theorem pfndV_eq (S : List Pr) (k : Int) : pfndV S k = .tup [.agg [.sc (.int .i64 (fndQ S k).id), .sc (.int .i64 (fndQ S k).at_.x), .sc (.int .i64 (fndQ S k).at_.y), .sc (.int .i64 (fndQ S k).lab)], .sc (.bool (hasQ S k))] := by
  unfold pfndV fndQ hasQ
  cases pfnd S k <;> rfl
theorem insE_eq (S : List Pr) (rc : Pr) : insE S rc = if fits rc.at_ then (if hasQ S rc.id then 20 else 0) else 1 := rfl
def BtP (H0 : List Bk) (r b v : Nat) (l : List Pr) (k : Nat) (F : Fr) (H : List Bk) : Prop :=
  (∃ T, TrP H r b (havP (l.take k)) T ∧ Kp NoB H0 H ∧ ∀ x, T x → H0.length ≤ x) ∧ F = [(1, .v (lV l)), (6, .v (.ptr r 0)), (8, .v (lV (havP (l.take k)))), (9, .v (.sc (.int .i64 k)))]
def BtPQ (H : List Bk) (v : Int) (l : List Pr) (y : V) (H' : List Bk) : Prop := (¬ (newE v = true ∧ l.length ≤ 80) ∧ y = .tup [.sc (.pointer none), .nil] ∧ Kp NoB H H') ∨ (newE v = true ∧ l.length ≤ 80 ∧ ∃ r b T, v = (b : Nat) ∧ y = .tup [.ptr r 0, lV (havP l)] ∧ TrP H' r b (havP l) T ∧ Kp NoB H H' ∧ ∀ x, T x → H.length ≤ x)
end Go.Proofs.YtmjnffjacgjfmaaGreat
