/- Review: the laws ReviewChanges and ReviewLong, walked. -/
import Derived.Test.YtbcfoakceloenaaDr1
namespace Go.Proofs.Ytbcfoakceloenaa
set_option linter.all false
open Go.RowKit AM Can
set_option maxRecDepth 10000
attribute [local simp] aw_skip' aw_region' aw_seq' aw_cond' aw_block' aw_loop' aw_exit' aw_label' aw_ret' aops_nil' aops_cons' aop' aMove aAssign aPick aAlloc aBox aBuild slF aBuildSlice aLoad aLoadOwn aStore aStoreOwn isOwn delR aNilCheck aBin aMakeFunc aFieldAddr aField aIndexAddr aExtract aSliceOp aSlice aCallOp aCall' aLen aLenMap aDelete aMM aUn aConv aIface aAssert aMakeMap aLookup aMapUpdate aRange aNext aEntry entsOf keyB seekK aMakeSlice lookV aAppend putK layK eval evalV AM.valOf getF putF setF del SV.refers cellsAt rootSV plains shift ldV V.exact V.exactL V.ofValue V.ofPart V.ofCell V.cells V.one Value.oneCell' fitB qSeq qBlock getB afin aret resVs resV resTmps shareF evalS tupV valsS valsV pickV calm calmB lenV useOf feeds looks isT newsV partsV fillV putAt zerosV fitsNil nilB sliceB isEq isNeq awx_skip' awx_region' awx_seq' awx_cond' awx_block' awx_loop' awx_exit' awx_label' awx_ret' xops_nil' xops_cons' xop' xload xcall' addO delO inO putD memB Mix.effB Mix.laysB keysF badK subW weakV zeroRow yops_nil' yops_cons' yop' yload yindex yfield ylen oldO dropO takeO oldL exactB
attribute [local simp] awz_skip' awz_region' awz_seq' awz_cond' awz_block' awz_loop' awz_exit' awz_label' awz_ret' zops_nil' zops_cons' zop' zload zloadOwn zcall' z0 new0 remF old0 dltB

/-! ## ReviewChanges -/
theorem ask_small {was is : List Ru} (h1 : smallV was = true) (h2 : smallV is = true) : askL [was, is] = argL (was.all ruRight && is.all ruRight) := by
  have h1 := of_decide_eq_true h1
  have h2 := of_decide_eq_true h2
  unfold askL argL
  rw [if_pos (by simp; omega)]
  simp
def CmI (qs : List (Rc (Int × Int))) (k : Nat) (F : Fr) (_ : List Bk) : Prop := F = [(7, .v (slC qs)), (9, .v (slC qs)), (10, .v (.sc (.int .i64 k)))]
set_option maxHeartbeats 16000000 in
theorem changesLaw (was is : List Ru) (w : Wo) (h1 : was.length ≤ 9223372036854775807) (h2 : is.length ≤ 9223372036854775807) (b1 : ∀ r ∈ was, r.boxes.length ≤ 4398046511104) (b2 : ∀ r ∈ is, r.boxes.length ≤ 4398046511104) :
    AFn Try.prog 3 [slU was, slU is, w.v] [] fun y _ => y = .sc (.bool true) := by
  have hK := lknownV
  have hS1 := lsmallV was h1 b1
  have hS2 := lsmallV is h2 b2
  have c1 := slU_closed was
  have c2 := slU_closed is
  have b1' : ∀ r ∈ was, r.boxes.length ≤ 9223372036854775807 := fun r hr => by have := b1 r hr; omega
  have b2' : ∀ r ∈ is, r.boxes.length ≤ 9223372036854775807 := fun r hr => by have := b2 r hr; omega
  cases s1 : smallV was with
  | false =>
    rw [s1] at hS1
    unfold Wo.v Wo.cs slU at *
    simp only [V.closed] at c1 c2
    refine AFn.intro (fn := Try.f3) (by kernel_rfl) rfl (by kernel_rfl) (by simp) (AW.ofx [] mixed (by kernel_rfl) ?_)
    simp only [Try.f3, argsF]
    simp
    refine callK.pure hS1 (by simp [V.closedL, V.closed, c1]) rfl ?_
    simp
    refine callK.pure hK rfl rfl ?_
    simp
  | true =>
    rw [s1] at hS1
    cases s2 : smallV is with
    | false =>
      rw [s2] at hS2
      unfold Wo.v Wo.cs slU at *
      simp only [V.closed] at c1 c2
      refine AFn.intro (fn := Try.f3) (by kernel_rfl) rfl (by kernel_rfl) (by simp) (AW.ofx [] mixed (by kernel_rfl) ?_)
      simp only [Try.f3, argsF]
      simp
      refine callK.pure hS1 (by simp [V.closedL, V.closed, c1]) rfl ?_
      simp
      refine callK.pure hS2 (by simp [V.closedL, V.closed, c2]) rfl ?_
      simp
      refine callK.pure hK rfl rfl ?_
      simp
    | true =>
      rw [s2] at hS2
      have m1 := of_decide_eq_true s1
      have m2 := of_decide_eq_true s2
      have hC := rchanges was is w h1 h2 b1' b2' (fun _ => ⟨by omega, by omega⟩)
      have hW := lwrongV was is h1 h2 b1' b2'
      have hR := dRight w
      have ha := ask_small s1 s2
      have cC := slC_closed (chP was is w)
      cases hr : (was.all ruRight && is.all ruRight) with
      | false =>
        rw [hr] at ha
        have ha : askL [was, is] = 1 := ha
        have e1 : chP was is w = [] := by unfold chP; rw [if_neg fun h => by rw [ha] at h; cases h.1]
        have e2 : chE was is w = 1 := by unfold chE; rw [ha]; rfl
        rw [e1, e2] at hC
        rw [ha] at hW
        unfold Wo.v Wo.cs slU at *
        unfold slC at hC
        simp only [V.closed] at c1 c2
        refine AFn.intro (fn := Try.f3) (by kernel_rfl) rfl (by kernel_rfl) (by simp) (AW.ofx [] mixed (by kernel_rfl) ?_)
        simp only [Try.f3, argsF]
        simp
        refine callK.pure hS1 (by simp [V.closedL, V.closed, c1]) rfl ?_
        simp
        refine callK.pure hS2 (by simp [V.closedL, V.closed, c2]) rfl ?_
        simp
        refine callK.pure hC (by simp [V.closedL, V.closed, c1, c2]) rfl ?_
        simp
        refine callK.pure hW (by simp [V.closedL, V.closed, c1, c2]) rfl ?_
        simp
        refine callK.pure hK rfl rfl ?_
        simp
      | true =>
        rw [hr] at ha
        have ha : askL [was, is] = 0 := ha
        rw [ha] at hW
        simp only [Bool.and_eq_true] at hr
        cases hn : numsU w.ro w.ti w.la with
        | false =>
          have e1 : chP was is w = [] := by unfold chP; rw [if_neg fun h => by rw [hn] at h; cases h.2]
          have e2 : chE was is w = 1 := by unfold chE; rw [if_pos ha, hn]; rfl
          rw [e1, e2] at hC
          rw [hn] at hR
          unfold Wo.v Wo.cs slU at *
          unfold slC at hC
          simp only [V.closed] at c1 c2
          refine AFn.intro (fn := Try.f3) (by kernel_rfl) rfl (by kernel_rfl) (by simp) (AW.ofx [] mixed (by kernel_rfl) ?_)
          simp only [Try.f3, argsF]
          simp
          refine callK.pure hS1 (by simp [V.closedL, V.closed, c1]) rfl ?_
          simp
          refine callK.pure hS2 (by simp [V.closedL, V.closed, c2]) rfl ?_
          simp
          refine callK.pure hC (by simp [V.closedL, V.closed, c1, c2]) rfl ?_
          simp
          refine callK.pure hW (by simp [V.closedL, V.closed, c1, c2]) rfl ?_
          simp
          refine callK.pure hR rfl rfl ?_
          simp
          refine callK.pure hK rfl rfl ?_
          simp
        | true =>
          have e1 : chP was is w = chD was is w := by unfold chP; rw [if_pos ⟨ha, hn⟩, ch_doc hr.1 hr.2]
          have e2 : chE was is w = 0 := by unfold chE; rw [if_pos ha, hn]; rfl
          have hD := dChanges was is w (by omega) (by omega) (by omega) (by omega) (docB_right hr.1 hr.2)
          have hlen := ovP_len neB was is w
          rw [ch_doc hr.1 hr.2] at hlen
          rw [e1, e2] at hC
          rw [e1] at cC
          rw [hn] at hR
          generalize chD was is w = qs at *
          unfold Wo.v Wo.cs slU at *
          simp only [V.closed] at c1 c2
          refine AFn.intro (fn := Try.f3) (by kernel_rfl) rfl (by kernel_rfl) (by simp) (AW.ofx [] mixed (by kernel_rfl) ?_)
          simp only [Try.f3, argsF]
          simp
          refine callK.pure hS1 (by simp [V.closedL, V.closed, c1]) rfl ?_
          simp
          refine callK.pure hS2 (by simp [V.closedL, V.closed, c2]) rfl ?_
          simp
          refine callK.pure hC (by simp [V.closedL, V.closed, c1, c2]) (by simp [V.closed, V.closedL, cC]) ?_
          simp [slC]
          refine callK.pure hW (by simp [V.closedL, V.closed, c1, c2]) rfl ?_
          simp
          refine callK.pure hR rfl rfl ?_
          simp
          refine callK.pure hD (by simp [V.closedL, V.closed, c1, c2]) cC ?_
          simp [slC]
          refine AW.count qs.length (CmI qs) ⟨_, ?_, rfl⟩ ?_
          · simp [subW, weakV, getF, slC]
          rintro k F H hk rfl
          refine AW.ofx [] mixed (by kernel_rfl) ?_
          by_cases hlt : k < qs.length
          · have w1 : IntKind.i64.wrap ((k : Int) + 1) = (k : Int) + 1 := by rw [wrap_i64] <;> omega
            have hrow := rowC' hlt
            simp [slC, hlt, hrow, eqChD, gChD, w1]
            refine ⟨_, ?_, rfl⟩
            simp [subW, weakV, getF, slC]
          · have hk' : k = qs.length := by omega
            subst hk'
            simp [slC]
            refine callK.pure hK rfl rfl ?_
            simp
end Go.Proofs.Ytbcfoakceloenaa
