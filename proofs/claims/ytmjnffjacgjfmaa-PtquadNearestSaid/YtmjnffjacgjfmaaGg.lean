/- Areas of rectangles, and rows of rectangles that are the same. -/
import Derived.Test.YtmjnffjacgjfmaaGf
import Derived.Test.YtmjnffjacgjfmaaGb1
namespace Go.Proofs.Ytmjnffjacgjfmaa
set_option linter.all false
open Go.RowKit AM
set_option maxRecDepth 10000
attribute [local simp] aw_skip' aw_region' aw_seq' aw_cond' aw_block' aw_loop' aw_exit' aw_label' aw_ret' aops_nil' aops_cons' aop' aMove aAssign aPick aAlloc aBox aBuild slF aBuildSlice aLoad aLoadOwn aLoadS sharesAt shares sharedV aStore aStoreOwn isOwn delR aNilCheck aBin aMakeFunc aFieldAddr aField aIndexOp aIndex partV aIndexAddr aExtract aSliceOp aSlice slV aShrink aCallOp aCall' aInvoke' aLen aLenMap aDelete aMM aUn aConv aIface aAssert aMakeMap aLookup aMapUpdate aRange aNext aEntry entsOf keyB seekK aMakeSlice lookV aApp aAppendB aAppendF aAppend putK layK eval evalV AM.valOf getF putF setF del SV.refers cellsAt rootSV plains shift ldV V.exact V.exactL V.ofValue V.ofPart V.ofCell V.cells V.one Value.oneCell' fitB qSeq qBlock getB afin aret resVs resV resTmps shareF evalS tupV valsS valsV pickV calm calmB lenV useOf feeds shrinks stows looks isT newsV partsV fillV putAt zerosV fitsNil nilB sliceB isEq isNeq awx_skip' awx_region' awx_seq' awx_cond' awx_block' awx_loop' awx_exit' awx_label' awx_ret' xops_nil' xops_cons' xop' xload xcall' addO delO inO putD memB Mix.effB Mix.laysB keysF badK subW weakV zeroRow yops_nil' yops_cons' yop' yload yindex yfield ylen oldO dropO takeO oldL exactB V.fixed V.fixedL

theorem areaR_of {r : Re} (h : rightR r = true) : IntKind.u64.wrap (IntKind.u64.wrap (r.x1 - r.x0 + 1) * IntKind.u64.wrap (r.y1 - r.y0 + 1)) = (areaR r : Nat) ∧ IntKind.i64.wrap (r.x1 - r.x0) = r.x1 - r.x0 ∧ IntKind.i64.wrap (r.y1 - r.y0) = r.y1 - r.y0 ∧ IntKind.i64.wrap (r.x1 - r.x0 + 1) = r.x1 - r.x0 + 1 ∧ IntKind.i64.wrap (r.y1 - r.y0 + 1) = r.y1 - r.y0 + 1 := by
  have h' := rightR_iff.1 h
  have h1 : (r.x1 - r.x0 + 1) * (r.y1 - r.y0 + 1) ≤ 65536 * 65536 := Int.mul_le_mul (by omega) (by omega) (by omega) (by omega)
  have h2 : 0 ≤ (r.x1 - r.x0 + 1) * (r.y1 - r.y0 + 1) := Int.mul_nonneg (by omega) (by omega)
  refine ⟨?_, by rw [wrap_i64] <;> omega, by rw [wrap_i64] <;> omega, by rw [wrap_i64] <;> omega, by rw [wrap_i64] <;> omega⟩
  rw [wrap_u64 (n := r.x1 - r.x0 + 1) (by omega) (by omega), wrap_u64 (n := r.y1 - r.y0 + 1) (by omega) (by omega), wrap_u64 h2 (by omega)]
  unfold areaR
  rw [if_pos h]
  omega
/-! ## Rows of rectangles -/
def slR (xs : List Re) : V := .sl xs.length 4 (xs.flatMap Re.cs)
def ownR (xs : List Re) : SV := .own true 50 xs.length 4 (xs.flatMap Re.cs)
theorem slR_closed (xs : List Re) : V.closed (slR xs) = true := by simp [slR, V.closed, closed_flat (enc := Re.cs) (fun _ => rfl)]
theorem rowR {xs : List Re} {k : Nat} (h : k < xs.length) : AM.rowAt 4 (xs.flatMap Re.cs) (k : Int) = [.sc (.int .i64 xs[k].x0), .sc (.int .i64 xs[k].y0), .sc (.int .i64 xs[k].x1), .sc (.int .i64 xs[k].y1)] := row_flat (enc := Re.cs) (sz := 4) (fun _ => rfl) h
theorem eqRe (a b c d a' b' c' d' : Int) : eqT Try.prog 10 50 (.agg #[.int .i64 a, .int .i64 b, .int .i64 c, .int .i64 d]) (.agg #[.int .i64 a', .int .i64 b', .int .i64 c', .int .i64 d']) = some (a == a' && (b == b' && (c == c' && (d == d' && true)))) := by kernel_rfl
theorem gRe : Try.prog.eqGuardType Try.prog.depth 50 = false := by kernel_rfl
theorem re_eq {a b : Re} : a = b ↔ a.x0 = b.x0 ∧ a.y0 = b.y0 ∧ a.x1 = b.x1 ∧ a.y1 = b.y1 := by
  cases a; cases b; simp
def SaI (t : Nat) (xs ys : List Re) (k : Nat) (F : Fr) (H : List Bk) : Prop := xs.take k = ys.take k ∧ H = [] ∧ F = [(0, .v (slR xs)), (1, .v (slR ys)), (t, .v (.sc (.int .i64 k)))]
end Go.Proofs.Ytmjnffjacgjfmaa
