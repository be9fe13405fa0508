/- Review: the law ReviewLong, walked. -/
import Derived.Test.YtbcfoakceloenaaDr1
namespace Go.Proofs.Ytbcfoakceloenaa
set_option linter.all false
open Go.RowKit AM Can
set_option maxRecDepth 10000
attribute [local simp] aw_skip' aw_region' aw_seq' aw_cond' aw_block' aw_loop' aw_exit' aw_label' aw_ret' aops_nil' aops_cons' aop' aMove aAssign aPick aAlloc aBox aBuild slF aBuildSlice aLoad aLoadOwn aStore aStoreOwn isOwn delR aNilCheck aBin aMakeFunc aFieldAddr aField aIndexAddr aExtract aSliceOp aSlice aCallOp aCall' aLen aLenMap aDelete aMM aUn aConv aIface aAssert aMakeMap aLookup aMapUpdate aRange aNext aEntry entsOf keyB seekK aMakeSlice lookV aAppend putK layK eval evalV AM.valOf getF putF setF del SV.refers cellsAt rootSV plains shift ldV V.exact V.exactL V.ofValue V.ofPart V.ofCell V.cells V.one Value.oneCell' fitB qSeq qBlock getB afin aret resVs resV resTmps shareF evalS tupV valsS valsV pickV calm calmB lenV useOf feeds looks isT newsV partsV fillV putAt zerosV fitsNil nilB sliceB isEq isNeq awx_skip' awx_region' awx_seq' awx_cond' awx_block' awx_loop' awx_exit' awx_label' awx_ret' xops_nil' xops_cons' xop' xload xcall' addO delO inO putD memB Mix.effB Mix.laysB keysF badK subW weakV zeroRow yops_nil' yops_cons' yop' yload yindex yfield ylen oldO dropO takeO oldL exactB
attribute [local simp] awz_skip' awz_region' awz_seq' awz_cond' awz_block' awz_loop' awz_exit' awz_label' awz_ret' zops_nil' zops_cons' zop' zload zloadOwn zcall' z0 new0 remF old0 dltB

/-! ## ReviewLong -/
set_option maxHeartbeats 8000000 in
theorem longLaw (l : List Ru) (w : Wo) (h1 : l.length ≤ 9223372036854775807) (b1 : ∀ r ∈ l, r.boxes.length ≤ 4398046511104) : AFn Try.prog 10 [slU l, w.v] [] fun y _ => y = .sc (.bool true) := by
  have hK := lknownV
  have c1 := slU_closed l
  have b1' : ∀ r ∈ l, r.boxes.length ≤ 9223372036854775807 := fun r hr => by have := b1 r hr; omega
  by_cases h32 : l.length ≤ 32
  · have h32' : (l.length : Int) ≤ 32 := by omega
    unfold Wo.v Wo.cs slU at *
    refine AFn.intro (fn := Try.f10) (by kernel_rfl) rfl (by kernel_rfl) (by simp) (AW.ofx [] mixed (by kernel_rfl) ?_)
    simp only [Try.f10, argsF]
    simp [h32, h32']
    refine callK.pure hK rfl rfl ?_
    simp
  · have h32' : ¬ (l.length : Int) ≤ 32 := by omega
    have a1 : askL [[], l] = 2 := by unfold askL; rw [if_neg (by simp; omega)]
    have a2 : askL [l, []] = 2 := by unfold askL; rw [if_neg (by simp; omega)]
    have a3 : askL [l] = 2 := by unfold askL; rw [if_neg (by simp; omega)]
    have hC := rchanges [] l w (by simp) h1 (by simp) b1' (fun h => by rw [a1] at h; cases h)
    have hR := rrises l [] h1 (by simp) b1' (by simp) (fun h => by rw [a2] at h; cases h)
    have hI := ridle l h1 b1' (fun h => by rw [a3] at h; cases h)
    have hA := rareas l w h1 b1' (fun h => by rw [a3] at h; cases h)
    have e1 : chP [] l w = [] := by unfold chP; rw [a1]; rfl
    have e2 : chE [] l w = 2 := by unfold chE; rw [a1]; rfl
    have e3 : rsP l [] = [] := by unfold rsP; rw [a2]; rfl
    have e4 : idP l = [] := by unfold idP; rw [a3]; rfl
    have e5 : areasP l w = [] := by unfold areasP; rw [a3]; rfl
    have e6 : arE l w = 2 := by unfold arE; rw [a3]; rfl
    rw [e1, e2] at hC
    rw [e3, a2] at hR
    rw [e4, a3] at hI
    rw [e5, e6] at hA
    have hC : PFn Try.prog 13 [.nil, slU l, w.v] (.tup [slC [], .sc (.int .i64 2)]) := AFn.weak hC (WeakL.nil0 (sz := 7) (WeakL.refl _))
    have hR : PFn Try.prog 20 [slU l, .nil] (.tup [slW [], .sc (.int .i64 2)]) := AFn.weak hR (WeakL.cons (WeakL.nil0 (sz := 7) (WeakL.refl _)))
    unfold Wo.v Wo.cs slU at *
    simp only [V.closed] at c1
    refine AFn.intro (fn := Try.f10) (by kernel_rfl) rfl (by kernel_rfl) (by simp) ?_
    simp only [Try.f10, argsF]
    refine AW.seq (AW.ofx [] mixed (by kernel_rfl) ?_)
    simp
    refine AW.seq (AW.ofx [] mixed (by kernel_rfl) ?_)
    simp [h32, h32']
    refine AW.seq (AW.ofx [] mixed (by kernel_rfl) ?_)
    simp
    refine callK.pure hC (by simp [V.closedL, V.closed, c1]) rfl ?_
    simp
    refine AW.seq (AW.ofx [] mixed (by kernel_rfl) ?_)
    simp
    refine callK.pure hR (by simp [V.closedL, V.closed, c1]) rfl ?_
    simp
    refine AW.seq (AW.ofx [] mixed (by kernel_rfl) ?_)
    simp
    refine callK.pure hI (by simp [V.closedL, V.closed, c1]) rfl ?_
    simp
    refine AW.seq (AW.ofx [] mixed (by kernel_rfl) ?_)
    simp
    refine callK.pure hA (by simp [V.closedL, V.closed, c1]) rfl ?_
    simp
    refine AW.ofx [] mixed (by kernel_rfl) ?_
    simp
    refine callK.pure hK rfl rfl ?_
    simp
end Go.Proofs.Ytbcfoakceloenaa
