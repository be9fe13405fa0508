/- Rows of shapes by the document: within a rectangle, under a cell, the same. -/
import Derived.Test.YtdeemchhbgomjaaGreatHn
namespace Go.Proofs.YtdeemchhbgomjaaGreat
set_option linter.all false
open Go.RowKit AM
set_option maxRecDepth 10000
attribute [local simp] aw_skip' aw_region' aw_seq' aw_cond' aw_block' aw_loop' aw_exit' aw_label' aw_ret' aops_nil' aops_cons' aop' aMove aAssign aPick aAlloc aBox aBuild slF aBuildSlice aLoad aLoadOwn aStore aStoreOwn isOwn delR aNilCheck aBin aMakeFunc aFieldAddr aField aIndexOp aIndex partV aIndexAddr aExtract aSliceOp aSlice aShrink aCallOp aCall' aInvoke' aLen aLenMap aDelete aMM aUn aConv aIface aAssert aMakeMap aLookup aMapUpdate aRange aNext aEntry entsOf keyB seekK aMakeSlice lookV aAppend putK layK eval evalV AM.valOf getF putF setF del SV.refers cellsAt rootSV plains shift ldV V.exact V.exactL V.ofValue V.ofPart V.ofCell V.cells V.one Value.oneCell' fitB qSeq qBlock getB afin aret resVs resV resTmps shareF evalS tupV valsS valsV pickV calm calmB lenV useOf feeds shrinks stows looks isT newsV partsV fillV putAt zerosV fitsNil nilB sliceB isEq isNeq awx_skip' awx_region' awx_seq' awx_cond' awx_block' awx_loop' awx_exit' awx_label' awx_ret' xops_nil' xops_cons' xop' xload xcall' addO delO inO putD memB Mix.effB Mix.laysB keysF badK subW weakV zeroRow yops_nil' yops_cons' yop' yload yindex yfield ylen oldO dropO takeO oldL exactB
attribute [local simp] awz_skip' awz_region' awz_seq' awz_cond' awz_block' awz_loop' awz_exit' awz_label' awz_ret' zops_nil' zops_cons' zop' zload zloadOwn zcall' zlenK z0 new0 remF old0 dltB

def WiI (xs : List Sh) (r : Re) (k : Nat) (F : Fr) (H : List Bk) : Prop := ∃ L, H = reB r :: L ∧ F = [(0, .v (slS xs)), (3, .v (.ptr 0 0)), (5, ownS ((xs.take k).filter fun t => inB t.box r)), (6, .v (.sc (.int .i64 k)))]
/-! ## Under -/
def undP (c : Ce) (s : Sh) : Bool := (aboveR (homeR s.box).1 c.l).2 && decide ((aboveR (homeR s.box).1 c.l).1 = c)
def UdI (xs : List Sh) (c : Ce) (k : Nat) (F : Fr) (H : List Bk) : Prop := ∃ L, H = ceB c :: L ∧ F = [(0, .v (slS xs)), (3, .v (.ptr 0 0)), (5, .v (.sc (.int .i64 ((xs.take k).filter (undP c)).length))), (6, .v (.sc (.int .i64 k)))]
theorem len_take {xs : List Sh} {p : Sh → Bool} {k : Nat} (h : k < xs.length) : ((xs.take (k + 1)).filter p).length = ((xs.take k).filter p).length + if p xs[k] = true then 1 else 0 := by
  rw [take_snoc h, List.filter_append, List.length_append]
  cases hp : p xs[k] <;> simp [hp]
/-! ## The same -/
theorem hEqSh0 (a b c d e f a' b' c' d' e' f' : Int) : eqT Tryz.prog 10 32 (.agg #[.int .i64 a, .int .i64 b, .int .i64 c, .int .i64 d, .int .i64 e, .int .i64 f]) (.agg #[.int .i64 a', .int .i64 b', .int .i64 c', .int .i64 d', .int .i64 e', .int .i64 f']) = some (a == a' && ((b == b' && (c == c' && (d == d' && (e == e' && true)))) && (f == f' && true))) := by kernel_rfl
theorem hGSh : Tryz.prog.eqGuardType Tryz.prog.depth 32 = false := by kernel_rfl
theorem sh_eq {a b : Sh} : a = b ↔ a.id = b.id ∧ (a.box.x0 = b.box.x0 ∧ a.box.y0 = b.box.y0 ∧ a.box.x1 = b.box.x1 ∧ a.box.y1 = b.box.y1) ∧ a.lab = b.lab := by
  obtain ⟨ai, ⟨a0, a1, a2, a3⟩, al⟩ := a
  obtain ⟨bi, ⟨b0, b1, b2, b3⟩, bl⟩ := b
  simp [and_assoc]
theorem hEqSh (p q : Sh) : eqT Tryz.prog 10 32 (.agg #[.int .i64 p.id, .int .i64 p.box.x0, .int .i64 p.box.y0, .int .i64 p.box.x1, .int .i64 p.box.y1, .int .i64 p.lab]) (.agg #[.int .i64 q.id, .int .i64 q.box.x0, .int .i64 q.box.y0, .int .i64 q.box.x1, .int .i64 q.box.y1, .int .i64 q.lab]) = some (decide (p = q)) := by
  rw [hEqSh0]
  congr 1
  rw [Bool.eq_iff_iff, decide_eq_true_iff, sh_eq]
  simp [and_assoc]
def SmI (xs ys : List Sh) (k : Nat) (F : Fr) (H : List Bk) : Prop := xs.take k = ys.take k ∧ H = [] ∧ F = [(0, .v (slS xs)), (1, .v (slS ys)), (5, .v (.sc (.int .i64 k)))]
theorem refSame (xs ys : List Sh) (hx : xs.length ≤ 1000000000) : PFn Tryz.prog 8 [slS xs, slS ys] (.sc (.bool (decide (xs = ys)))) := by
  refine AFn.intro (fn := Tryz.f8) (by kernel_rfl) rfl (by kernel_rfl) (by simp) (AW.ofx [] mixed (by kernel_rfl) ?_)
  simp only [Tryz.f8, argsF]
  simp [slS]
  by_cases hl : xs.length = ys.length
  · simp [slS, hl]
    refine AW.count xs.length (SmI xs ys) ⟨_, ?_, by simp, rfl, rfl⟩ ?_
    · simp [subW, weakV, getF, slS, hl]
    rintro k F H hk ⟨ht, rfl, rfl⟩
    refine AW.ofx [] mixed (by kernel_rfl) ?_
    by_cases hlt : k < xs.length
    · have hlt' : k < ys.length := by omega
      have w1 : IntKind.i64.wrap ((k : Int) + 1) = (k : Int) + 1 := by rw [wrap_i64] <;> omega
      by_cases he : xs[k] = ys[k]
      · simp [slS, hlt, hlt', rowSh, hEqSh, hGSh, w1, he]
        refine ⟨_, ?_, ?_, rfl, rfl⟩
        · simp [subW, weakV, getF, slS]
        · rw [take_snoc hlt, take_snoc hlt', ht, he]
      · have : ¬ xs = ys := fun e' => by
          subst e'
          exact he rfl
        simp [slS, hlt, hlt', rowSh, hEqSh, hGSh, w1, he, this]
    · have hk' : k = xs.length := by omega
      have he : xs = ys := by
        rw [hk', List.take_length, hl, List.take_length] at ht
        exact ht
      simp [slS, hlt]
      exact he
  · have : ¬ xs = ys := fun e => hl (by rw [e])
    have hl' : ((xs.length : Int) != ys.length) = true := by simp; omega
    simp [hl', this]
end Go.Proofs.YtdeemchhbgomjaaGreat
