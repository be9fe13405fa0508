/- Grant: spans that are equal, and patches that are told, by the program. -/
import Derived.Test.YtbcfoakceloenaaKb1
import Derived.Test.YtbcfoakceloenaaBe1
namespace Go.Proofs.Ytbcfoakceloenaa
set_option linter.all false
open Go.RowKit AM Can
set_option maxRecDepth 10000
attribute [local simp] aw_skip' aw_region' aw_seq' aw_cond' aw_block' aw_loop' aw_exit' aw_label' aw_ret' aops_nil' aops_cons' aop' aMove aAssign aPick aAlloc aBox aBuild slF aBuildSlice aLoad aLoadOwn aStore aStoreOwn isOwn delR aNilCheck aBin aMakeFunc aFieldAddr aField aIndexAddr aExtract aSliceOp aSlice aCallOp aCall' aLen aLenMap aDelete aMM aUn aConv aIface aAssert aMakeMap aLookup aMapUpdate aRange aNext aEntry entsOf keyB seekK aMakeSlice lookV aAppend putK layK eval evalV AM.valOf getF putF setF del SV.refers cellsAt rootSV plains shift ldV V.exact V.exactL V.ofValue V.ofPart V.ofCell V.cells V.one Value.oneCell' fitB qSeq qBlock getB afin aret resVs resV resTmps shareF evalS tupV valsS valsV pickV calm calmB lenV useOf feeds looks isT newsV partsV fillV putAt zerosV fitsNil nilB sliceB isEq isNeq awx_skip' awx_region' awx_seq' awx_cond' awx_block' awx_loop' awx_exit' awx_label' awx_ret' xops_nil' xops_cons' xop' xload xcall' addO delO inO putD memB Mix.effB Mix.laysB keysF badK subW weakV zeroRow yops_nil' yops_cons' yop' yload yindex yfield ylen oldO dropO takeO oldL exactB
attribute [local simp] awz_skip' awz_region' awz_seq' awz_cond' awz_block' awz_loop' awz_exit' awz_label' awz_ret' zops_nil' zops_cons' zop' zload zloadOwn zcall' z0 new0 remF old0 dltB

theorem sp_eq {a b : Run Int} : a = b ↔ a.a = b.a ∧ a.b = b.b ∧ a.z = b.z := by
  cases a; cases b; simp
def EsI (xs ys : List (Run Int)) (k : Nat) (F : Fr) (H : List Bk) : Prop := xs.take k = ys.take k ∧ H = [] ∧ F = [(0, .v (slS xs)), (1, .v (slS ys)), (12, .v (.sc (.int .i64 xs.length))), (13, .v (.sc (.int .i64 k)))]
/-! ## Patches -/
def pcs (q : Rc Int) : List V := [.sc (.int .i64 q.x0), .sc (.int .i64 q.y0), .sc (.int .i64 q.x1), .sc (.int .i64 q.y1), .sc (.int .i64 q.z)]
def slP (qs : List (Rc Int)) : V := .sl qs.length 5 (qs.flatMap pcs)
theorem slP_closed (qs : List (Rc Int)) : V.closed (slP qs) = true := by simp [slP, V.closed, closed_flat (enc := pcs) (fun _ => rfl)]
theorem rowP {qs : List (Rc Int)} {k : Nat} (h : k < qs.length) : AM.rowAt 5 (qs.flatMap pcs) (k : Int) = [.sc (.int .i64 qs[k].x0), .sc (.int .i64 qs[k].y0), .sc (.int .i64 qs[k].x1), .sc (.int .i64 qs[k].y1), .sc (.int .i64 qs[k].z)] := row_flat (enc := pcs) (sz := 5) (fun _ => rfl) h
theorem setBlk1 {H : List Bk} {id : Nat} {x y : SV} (h : H[id]? = some (.cells [x])) : setBlk H id 0 y = H.set id (.cells [y]) := by rw [setBlk_eq h]; rfl
end Go.Proofs.Ytbcfoakceloenaa
