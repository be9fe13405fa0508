/- Homes: the program's and the document's; the way down; a fresh node. -/
import Derived.Test.YtmjnffjacgjfmaaHb
namespace Go.Proofs.Ytmjnffjacgjfmaa
set_option linter.all false
open Go.RowKit AM
set_option maxRecDepth 10000
attribute [local simp] aw_skip' aw_region' aw_seq' aw_cond' aw_block' aw_loop' aw_exit' aw_label' aw_ret' aops_nil' aops_cons' aop' aMove aAssign aPick aAlloc aBox aBuild slF aBuildSlice aLoad aLoadOwn aLoadS sharesAt shares sharedV aStore aStoreOwn isOwn delR aNilCheck aBin aMakeFunc aFieldAddr aField aIndexOp aIndex partV aIndexAddr aExtract aSliceOp aSlice slV aShrink aCallOp aCall' aInvoke' aLen aLenMap aDelete aMM aUn aConv aIface aAssert aMakeMap aLookup aMapUpdate aRange aNext aEntry entsOf keyB seekK aMakeSlice lookV aApp aAppendB aAppendF aAppend putK layK eval evalV AM.valOf getF putF setF del SV.refers cellsAt rootSV plains shift ldV V.exact V.exactL V.ofValue V.ofPart V.ofCell V.cells V.one Value.oneCell' fitB qSeq qBlock getB afin aret resVs resV resTmps shareF evalS tupV valsS valsV pickV calm calmB lenV useOf feeds shrinks stows looks isT newsV partsV fillV putAt zerosV fitsNil nilB sliceB isEq isNeq awx_skip' awx_region' awx_seq' awx_cond' awx_block' awx_loop' awx_exit' awx_label' awx_ret' xops_nil' xops_cons' xop' xload xcall' addO delO inO putD memB Mix.effB Mix.laysB keysF badK subW weakV zeroRow yops_nil' yops_cons' yop' yload yindex yfield ylen oldO dropO takeO oldL exactB V.fixed V.fixedL

def ceB (c : Ce) : Bk := .cells [.v (.sc (.int .i64 c.l)), .v (.sc (.int .i64 c.x)), .v (.sc (.int .i64 c.y))]
def homeK (r : Re) (k : Nat) : Ce := if k = 0 then ⟨0, 0, 0⟩ else cellOf r.lo ((k - 1 : Nat) : Int)
def HomeI (r : Re) (k : Nat) (F : Fr) (H : List Bk) : Prop := (∀ j : Nat, j < k → cellOf r.lo j = cellOf r.hi j) ∧ ∃ L h, h = homeK r k ∧ H = reB r :: ceB ⟨0, 0, 0⟩ :: ceB h :: L ∧
  F = [(1, .v (.ptr 0 0)), (2, .v (.ptr 1 0)), (4, .v (.ptr 2 0)), (11, .v (.sc (.int .i64 k)))]
theorem box_right {c : Ce} (h : rightC c = true) : rightR (boxOf c) = true := by
  have := box_le h
  have hp := side_pos c.l
  rw [rightR_iff]
  simp only [boxOf]
  omega
theorem in_home {r : Re} {l : Int} (h : rightR r = true) (h0 : 0 ≤ l) (hl : l ≤ 16) : inB r (boxOf (cellOf r.lo l)) = decide (cellOf r.lo l = cellOf r.hi l) := by
  have hc := cell_right (right_fits h).1 h0 hl
  have hb := box_right hc
  rw [Bool.eq_iff_iff, decide_eq_true_iff, same_cell h h0 hl]
  have hp := side_pos l
  have m1 := Int.mul_ediv_add_emod r.x0 (side l)
  have m2 := Int.mul_ediv_add_emod r.y0 (side l)
  have n1 := Int.emod_nonneg r.x0 (b := side l) (by omega)
  have n2 := Int.emod_nonneg r.y0 (b := side l) (by omega)
  simp only [inB, h, hb, Bool.true_and, decide_eq_true_iff]
  simp only [boxOf, cellOf, Re.lo]
  generalize side l * (r.x0 / side l) = a at *
  generalize side l * (r.y0 / side l) = b at *
  omega
def HomeD (r : Re) (k : Nat) (F : Fr) (H : List Bk) : Prop := homeN r 16 = homeN r (16 - k) ∧ ∃ L l, l = (16 - (k : Int)) ∧ H = reB r :: ceB ⟨0, 0, 0⟩ :: L ∧
  F = [(1, .v (.ptr 0 0)), (2, .v (.ptr 1 0)), (4, .v (.sc (.int .i64 l)))]
end Go.Proofs.Ytmjnffjacgjfmaa
