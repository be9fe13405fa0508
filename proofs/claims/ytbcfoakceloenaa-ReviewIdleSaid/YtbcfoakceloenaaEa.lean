/- Review: the law ReviewRises, walked. -/
import Derived.Test.YtbcfoakceloenaaDt
import Derived.Test.YtbcfoakceloenaaDx
namespace Go.Proofs.Ytbcfoakceloenaa
set_option linter.all false
open Go.RowKit AM Can
set_option maxRecDepth 10000
attribute [local simp] aw_skip' aw_region' aw_seq' aw_cond' aw_block' aw_loop' aw_exit' aw_label' aw_ret' aops_nil' aops_cons' aop' aMove aAssign aPick aAlloc aBox aBuild slF aBuildSlice aLoad aLoadOwn aStore aStoreOwn isOwn delR aNilCheck aBin aMakeFunc aFieldAddr aField aIndexAddr aExtract aSliceOp aSlice aCallOp aCall' aLen aLenMap aDelete aMM aUn aConv aIface aAssert aMakeMap aLookup aMapUpdate aRange aNext aEntry entsOf keyB seekK aMakeSlice lookV aAppend putK layK eval evalV AM.valOf getF putF setF del SV.refers cellsAt rootSV plains shift ldV V.exact V.exactL V.ofValue V.ofPart V.ofCell V.cells V.one Value.oneCell' fitB qSeq qBlock getB afin aret resVs resV resTmps shareF evalS tupV valsS valsV pickV calm calmB lenV useOf feeds looks isT newsV partsV fillV putAt zerosV fitsNil nilB sliceB isEq isNeq awx_skip' awx_region' awx_seq' awx_cond' awx_block' awx_loop' awx_exit' awx_label' awx_ret' xops_nil' xops_cons' xop' xload xcall' addO delO inO putD memB Mix.effB Mix.laysB keysF badK subW weakV zeroRow yops_nil' yops_cons' yop' yload yindex yfield ylen oldO dropO takeO oldL exactB
attribute [local simp] awz_skip' awz_region' awz_seq' awz_cond' awz_block' awz_loop' awz_exit' awz_label' awz_ret' zops_nil' zops_cons' zop' zload zloadOwn zcall' z0 new0 remF old0 dltB

theorem eqWoD (a b c a' b' c' : Int) : eqT Try.prog 10 33 (.agg #[.int .i64 a, .int .i64 b, .int .i64 c]) (.agg #[.int .i64 a', .int .i64 b', .int .i64 c']) = some (a == a' && (b == b' && (c == c' && true))) := by kernel_rfl
theorem gWoD : Try.prog.eqGuardType Try.prog.depth 33 = false := by kernel_rfl
theorem rowW' {ws : List Wo} {k : Nat} (h : k < ws.length) : AM.rowAt 3 (ws.flatMap Wo.cs) (k : Int) = [.sc (.int .i64 ws[k].ro), .sc (.int .i64 ws[k].ti), .sc (.int .i64 ws[k].la)] := rowW h
theorem rs_doc {was is : List Ru} (h : askL [was, is] = 0) : rsP was is = pickW (someD false was is) 512 := by
  have hr := (askL_zero h).2
  unfold rsP whoP
  rw [if_pos h, List.take_of_length_le (pickW_len _ _)]
  have : someP ltB was is = someD false was is := funext fun w => (some_lt (hr was (by simp)) (hr is (by simp)) w).symm
  rw [this]
def RsI (ws : List Wo) (k : Nat) (F : Fr) (_ : List Bk) : Prop := F = [(5, .v (slW ws)), (7, .v (slW ws)), (8, .v (.sc (.int .i64 k)))]
set_option maxHeartbeats 16000000 in
theorem risesLaw (was is : List Ru) (h1 : was.length ≤ 9223372036854775807) (h2 : is.length ≤ 9223372036854775807) (b1 : ∀ r ∈ was, r.boxes.length ≤ 4398046511104) (b2 : ∀ r ∈ is, r.boxes.length ≤ 4398046511104) :
    AFn Try.prog 6 [slU was, slU is] [] fun y _ => y = .sc (.bool true) := by
  have hK := lknownV
  have hS1 := lsmallV was h1 b1
  have hS2 := lsmallV is h2 b2
  have c1 := slU_closed was
  have c2 := slU_closed is
  have b1' : ∀ r ∈ was, r.boxes.length ≤ 9223372036854775807 := fun r hr => by have := b1 r hr; omega
  have b2' : ∀ r ∈ is, r.boxes.length ≤ 9223372036854775807 := fun r hr => by have := b2 r hr; omega
  cases s1 : smallV was with
  | false =>
    rw [s1] at hS1
    refine AFn.intro (fn := Try.f6) (by kernel_rfl) rfl (by kernel_rfl) (by simp) (AW.ofx [] mixed (by kernel_rfl) ?_)
    simp only [Try.f6, argsF]
    simp
    refine callK.pure hS1 (by simp [V.closedL, V.closed, c1]) rfl ?_
    simp
    refine callK.pure hK rfl rfl ?_
    simp
  | true =>
    rw [s1] at hS1
    cases s2 : smallV is with
    | false =>
      rw [s2] at hS2
      refine AFn.intro (fn := Try.f6) (by kernel_rfl) rfl (by kernel_rfl) (by simp) (AW.ofx [] mixed (by kernel_rfl) ?_)
      simp only [Try.f6, argsF]
      simp
      refine callK.pure hS1 (by simp [V.closedL, V.closed, c1]) rfl ?_
      simp
      refine callK.pure hS2 (by simp [V.closedL, V.closed, c2]) rfl ?_
      simp
      refine callK.pure hK rfl rfl ?_
      simp
    | true =>
      rw [s2] at hS2
      have m1 := of_decide_eq_true s1
      have m2 := of_decide_eq_true s2
      have hC := rrises was is h1 h2 b1' b2' (fun _ => ⟨by omega, by omega⟩)
      have hW := lwrongV was is h1 h2 b1' b2'
      have ha := ask_small s1 s2
      cases hr : (was.all ruRight && is.all ruRight) with
      | false =>
        rw [hr] at ha
        have ha : askL [was, is] = 1 := ha
        have e1 : rsP was is = [] := by unfold rsP; rw [if_neg fun h => by rw [ha] at h; cases h]
        rw [e1, ha] at hC
        rw [ha] at hW
        unfold slW at hC
        refine AFn.intro (fn := Try.f6) (by kernel_rfl) rfl (by kernel_rfl) (by simp) ?_
        simp only [Try.f6, argsF]
        refine AW.seq (AW.ofx [] mixed (by kernel_rfl) ?_)
        simp
        refine AW.seq (AW.ofx [] mixed (by kernel_rfl) ?_)
        simp
        refine callK.pure hS1 (by simp [V.closedL, V.closed, c1]) rfl ?_
        simp
        refine callK.pure hS2 (by simp [V.closedL, V.closed, c2]) rfl ?_
        simp
        refine AW.seq (AW.ofx [] mixed (by kernel_rfl) ?_)
        simp
        refine callK.pure hC (by simp [V.closedL, V.closed, c1, c2]) rfl ?_
        simp
        refine AW.seq (AW.ofx [] mixed (by kernel_rfl) ?_)
        simp
        refine callK.pure hW (by simp [V.closedL, V.closed, c1, c2]) rfl ?_
        simp
        refine callK.pure hK rfl rfl ?_
        simp
      | true =>
        rw [hr] at ha
        have ha : askL [was, is] = 0 := ha
        have hD := dRises was is (by omega) (by omega) (by omega) (by omega)
        have hlen := pickW_len (someD false was is) 512
        rw [ha] at hW hC
        rw [rs_doc ha] at hC
        generalize pickW (someD false was is) 512 = ws at *
        have cW := slW_closed ws
        refine AFn.intro (fn := Try.f6) (by kernel_rfl) rfl (by kernel_rfl) (by simp) ?_
        simp only [Try.f6, argsF]
        refine AW.seq (AW.ofx [] mixed (by kernel_rfl) ?_)
        simp
        refine AW.seq (AW.ofx [] mixed (by kernel_rfl) ?_)
        simp
        refine callK.pure hS1 (by simp [V.closedL, V.closed, c1]) rfl ?_
        simp
        refine callK.pure hS2 (by simp [V.closedL, V.closed, c2]) rfl ?_
        simp
        refine AW.seq (AW.ofx [] mixed (by kernel_rfl) ?_)
        simp
        refine callK.pure hC (by simp [V.closedL, V.closed, c1, c2]) (by simp [V.closed, V.closedL, cW]) ?_
        simp [slW]
        refine AW.seq (AW.ofx [] mixed (by kernel_rfl) ?_)
        simp
        refine callK.pure hW (by simp [V.closedL, V.closed, c1, c2]) rfl ?_
        simp
        refine AW.seq (AW.ofx [] mixed (by kernel_rfl) ?_)
        simp
        refine callK.pure hD (by simp [V.closedL, V.closed, c1, c2]) cW ?_
        simp
        refine AW.seq (AW.ofx [] mixed (by kernel_rfl) ?_)
        simp [slW]
        refine AW.seq (AW.ofx [] mixed (by kernel_rfl) ?_)
        simp
        refine AW.count ws.length (RsI ws) ⟨_, ?_, rfl⟩ ?_
        · simp [subW, weakV, getF, slW]
        rintro k F H hk rfl
        refine AW.ofx [] mixed (by kernel_rfl) ?_
        by_cases hlt : k < ws.length
        · have w1 : IntKind.i64.wrap ((k : Int) + 1) = (k : Int) + 1 := by rw [wrap_i64] <;> omega
          have hrow := rowW' hlt
          simp [slW, hlt, hrow, eqWoD, gWoD, w1]
          refine ⟨_, ?_, rfl⟩
          simp [subW, weakV, getF, slW]
        · have hk' : k = ws.length := by omega
          subst hk'
          simp [slW]
          refine AW.ofx [] mixed (by kernel_rfl) ?_
          simp
          refine callK.pure hK rfl rfl ?_
          simp
end Go.Proofs.Ytbcfoakceloenaa
