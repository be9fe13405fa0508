/- Grant: the numbers at which something may change, by the program. -/
import Derived.Test.YtbcfoakceloenaaWk1
import Derived.Test.YtbcfoakceloenaaIs1
import Derived.Test.YtbcfoakceloenaaBc
namespace Go.Proofs.Ytbcfoakceloenaa
set_option linter.all false
open Go.RowKit AM Can
set_option maxRecDepth 10000
attribute [local simp] aw_skip' aw_region' aw_seq' aw_cond' aw_block' aw_loop' aw_exit' aw_label' aw_ret' aops_nil' aops_cons' aop' aMove aAssign aPick aAlloc aBox aBuild slF aBuildSlice aLoad aLoadOwn aStore aStoreOwn isOwn delR aNilCheck aBin aMakeFunc aFieldAddr aField aIndexAddr aExtract aSliceOp aSlice aCallOp aCall' aLen aLenMap aDelete aMM aUn aConv aIface aAssert aMakeMap aLookup aMapUpdate aRange aNext aEntry entsOf keyB seekK aMakeSlice lookV aAppend putK layK eval evalV AM.valOf getF putF setF del SV.refers cellsAt rootSV plains shift ldV V.exact V.exactL V.ofValue V.ofPart V.ofCell V.cells V.one Value.oneCell' fitB qSeq qBlock getB afin aret resVs resV resTmps shareF evalS tupV valsS valsV pickV calm calmB lenV useOf feeds looks isT newsV partsV fillV putAt zerosV fitsNil nilB sliceB isEq isNeq awx_skip' awx_region' awx_seq' awx_cond' awx_block' awx_loop' awx_exit' awx_label' awx_ret' xops_nil' xops_cons' xop' xload xcall' addO delO inO putD memB Mix.effB Mix.laysB keysF badK subW weakV zeroRow yops_nil' yops_cons' yop' yload yindex yfield ylen oldO dropO takeO oldL exactB
attribute [local simp] awz_skip' awz_region' awz_seq' awz_cond' awz_block' awz_loop' awz_exit' awz_label' awz_ret' zops_nil' zops_cons' zop' zload zloadOwn zcall' z0 new0 remF old0 dltB

def boxesU (l : List Ru) : List Re := l.flatMap Ru.boxes
def endsD (d : Bool) (l : List Re) : List Int := l.flatMap fun r => [lo d r, hi d r + 1]
theorem endsD_len (d : Bool) (l : List Re) : (endsD d l).length = 2 * l.length := ends_len2 l
theorem endsD_mem {d : Bool} {l : List Re} {z : Int} : z ∈ endsD d l ↔ ∃ r ∈ l, z = lo d r ∨ z = hi d r + 1 := by simp [endsD]
theorem endsD_append (d : Bool) (a b : List Re) : endsD d (a ++ b) = endsD d a ++ endsD d b := by simp [endsD]
/-- What of gives: the first and the last number of a rectangle. -/
def OfD (P : Program) (f : FuncId) (d : Bool) : Prop := ∀ b : Re, PFn P f [b.v] (.tup [.sc (.int .i64 (lo d b)), .sc (.int .i64 (hi d b))])
def EgA (f : FuncId) (d : Bool) (l : List Ru) (k : Nat) (F : Fr) (H : List Bk) : Prop := F = [(1, .v (.fn (.func f) [] [])), (5, ownI (endsD d (boxesU (l.take k)))), (12, .v (slU l)), (13, .v (.sc (.int .i64 l.length))), (14, .v (.sc (.int .i64 k)))]
def EgB (f : FuncId) (d : Bool) (l : List Ru) (k : Nat) (c : List Re) (j : Nat) (F : Fr) (H : List Bk) : Prop := F = [(1, .v (.fn (.func f) [] [])), (5, ownI (endsD d (boxesU (l.take k)) ++ endsD d (c.take j))), (12, .v (slU l)), (13, .v (.sc (.int .i64 l.length))), (14, .v (.sc (.int .i64 k))), (19, .v (slR c)), (20, .v (.sc (.int .i64 c.length))), (21, .v (.sc (.int .i64 j)))]
theorem boxesU_take {l : List Ru} {k : Nat} (h : k < l.length) : boxesU (l.take (k + 1)) = boxesU (l.take k) ++ l[k].boxes := flat_take_succ h
theorem boxesU_take_len (l : List Ru) (k : Nat) : (boxesU (l.take k)).length ≤ (boxesU l).length := by
  have := congrArg (fun x => (boxesU x).length) (List.take_append_drop k l)
  simp only [boxesU, List.flatMap_append, List.length_append] at this ⊢
  omega
theorem boxesU_mem {l : List Ru} {r : Ru} (h : r ∈ l) {b : Re} (hb : b ∈ r.boxes) : b ∈ boxesU l := List.mem_flatMap.2 ⟨r, h, hb⟩
end Go.Proofs.Ytbcfoakceloenaa
