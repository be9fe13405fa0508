/- Rows of shapes by the document: those that meet a rectangle. -/
import Derived.Test.YtdeemchhbgomjaaHm
namespace Go.Proofs.Ytdeemchhbgomjaa
set_option linter.all false
open Go.RowKit AM
set_option maxRecDepth 10000
attribute [local simp] aw_skip' aw_region' aw_seq' aw_cond' aw_block' aw_loop' aw_exit' aw_label' aw_ret' aops_nil' aops_cons' aop' aMove aAssign aPick aAlloc aBox aBuild slF aBuildSlice aLoad aLoadOwn aStore aStoreOwn isOwn delR aNilCheck aBin aMakeFunc aFieldAddr aField aIndexOp aIndex partV aIndexAddr aExtract aSliceOp aSlice aShrink aCallOp aCall' aInvoke' aLen aLenMap aDelete aMM aUn aConv aIface aAssert aMakeMap aLookup aMapUpdate aRange aNext aEntry entsOf keyB seekK aMakeSlice lookV aAppend putK layK eval evalV AM.valOf getF putF setF del SV.refers cellsAt rootSV plains shift ldV V.exact V.exactL V.ofValue V.ofPart V.ofCell V.cells V.one Value.oneCell' fitB qSeq qBlock getB afin aret resVs resV resTmps shareF evalS tupV valsS valsV pickV calm calmB lenV useOf feeds shrinks stows looks isT newsV partsV fillV putAt zerosV fitsNil nilB sliceB isEq isNeq awx_skip' awx_region' awx_seq' awx_cond' awx_block' awx_loop' awx_exit' awx_label' awx_ret' xops_nil' xops_cons' xop' xload xcall' addO delO inO putD memB Mix.effB Mix.laysB keysF badK subW weakV zeroRow yops_nil' yops_cons' yop' yload yindex yfield ylen oldO dropO takeO oldL exactB
attribute [local simp] awz_skip' awz_region' awz_seq' awz_cond' awz_block' awz_loop' awz_exit' awz_label' awz_ret' zops_nil' zops_cons' zop' zload zloadOwn zcall' z0 new0 remF old0 dltB

def MeI (xs : List Sh) (r : Re) (k : Nat) (F : Fr) (H : List Bk) : Prop := ∃ L, H = reB r :: L ∧ F = [(0, .v (slS xs)), (3, .v (.ptr 0 0)), (5, ownS ((xs.take k).filter fun t => meetsR t.box r)), (6, .v (.sc (.int .i64 k)))]
def MeM (xs : List Sh) (r : Re) (k : Nat) (b : Bool) (F : Fr) (H : List Bk) : Prop := ∃ L, H = reB r :: L ∧ F = [(0, .v (slS xs)), (3, .v (.ptr 0 0)), (5, ownS ((xs.take k).filter fun t => meetsR t.box r)), (6, .v (.sc (.int .i64 k))), (8, .v (.sc (.bool b)))]
theorem refMeets (xs : List Sh) (r : Re) (hx : xs.length ≤ 1000000) : PFn Try.prog 20 [slS xs, r.v] (slS (xs.filter fun t => meetsR t.box r)) := by
  unfold Re.v Re.cs
  refine AFn.intro (fn := Try.f20) (by kernel_rfl) rfl (by kernel_rfl) (by simp) ?_
  simp only [Try.f20, argsF]
  refine AW.seq (AW.ofx [] mixed (by kernel_rfl) ?_)
  simp [slS]
  refine AW.seq (AW.ofx [] mixed (by kernel_rfl) ?_)
  simp
  refine AW.seq (AW.seq (AW.ofx [] mixed (by kernel_rfl) ?_))
  simp
  refine AW.block (AW.count xs.length (MeI xs r) ⟨_, ?_, [], by simp [reB], rfl⟩ ?_)
  · simp [subW, weakV, getF, slS, ownS, zeroRow]
  rintro k F H hk ⟨L, rfl, rfl⟩
  have hle := flt_le (xs := xs) (p := fun t => meetsR t.box r) (k := k)
  refine AW.seq (AW.ofx [] mixed (by kernel_rfl) ?_)
  by_cases hlt : k < xs.length
  · have w1 : IntKind.i64.wrap ((k : Int) + 1) = (k : Int) + 1 := by rw [wrap_i64] <;> omega
    have ho := own_take (p := fun t => meetsR t.box r) hlt
    have hM := refMeet xs[k].box r
    unfold meetV at hM
    generalize meetP xs[k].box r = p at hM
    unfold Re.v Re.cs at hM
    simp [slS, ownS, hlt]
    refine AW.seq (AW.block ?_)
    refine AW.mid (MeM xs r k (meetsR xs[k].box r)) (AW.off [] [(5, 10, 12, [0, 6, 3])] mixed (by kernel_rfl) ?_) ?_
    · unfold reB
      have hp : ∀ x y : Bk, (x :: (L ++ [y]))[L.length + 1]? = some y := fun x y => by simp
      have k3 : ∀ x y : Bk, keepS (x :: L) (x :: (L ++ [y])) = True := fun x y => by
        have := keepS_app (H := x :: L) (L := [y])
        simpa using this
      have k4 : ∀ (x : Bk) (z0 z1 z2 z3 : SV) (a b c d : V), setCells (x :: (L ++ [.cells [z0, z1, z2, z3]])) (L.length + 1) 0 [a, b, c, d] = x :: (L ++ [.cells [.v a, .v b, .v c, .v d]]) := fun x z0 z1 z2 z3 a b c d => by
        simp [setCells, setBlk]
      simp [awf_skip', awf_region', awf_seq', awf_cond', awf_block', awf_loop', awf_exit', awf_label', awf_ret', flK, floatY', yopsB_nil', yopsB_cons', ystep', slS, hlt, rowSh, k3]
      refine ⟨callK.pure hM rfl rfl ?_, callK.pure hM rfl rfl ?_⟩
      all_goals
        simp [awf_skip', awf_region', awf_seq', awf_cond', awf_block', awf_loop', awf_exit', awf_label', awf_ret', flK, floatY', yopsB_nil', yopsB_cons', ystep', slS, hlt, rowSh, hp, k3, k4]
        refine ⟨_, ?_, _, rfl, rfl⟩
        simp [subW, weakV, getF, slS, ownS]
    · rintro F1 H1 ⟨L1, rfl, rfl⟩
      refine AW.ofx [] mixed (by kernel_rfl) ?_
      unfold slS ownS
      generalize ((xs.take k).filter fun t => meetsR t.box r) = zs at *
      cases hb : meetsR xs[k].box r with
      | false =>
        rw [if_neg (by simp [hb])] at ho
        simp [hlt, rowSh]
        refine AW.ofx [] mixed (by kernel_rfl) ?_
        simp [w1]
        refine ⟨_, ?_, L1, rfl, rfl⟩
        rw [ho]
        simp [subW, weakV, getF, slS, ownS]
      | true =>
        rw [if_pos hb] at ho
        simp [hlt, rowSh]
        refine ⟨by omega, ?_⟩
        refine AW.ofx [] mixed (by kernel_rfl) ?_
        simp [w1]
        refine ⟨_, ?_, L1, rfl, rfl⟩
        rw [ho]
        simp [subW, weakV, getF, slS, ownS, Sh.cs]
  · have hk' : k = xs.length := by omega
    subst hk'
    simp [slS, ownS]
    refine AW.ofx [] mixed (by kernel_rfl) ?_
    simp [slS, ownS]
end Go.Proofs.Ytdeemchhbgomjaa
