/- Regions: the law of unions. -/
import Derived.Test.YtoooldijnilpaaaVn
namespace Go.Proofs.Ytoooldijnilpaaa
set_option linter.all false
open Go.RowKit AM Can
set_option maxRecDepth 10000
attribute [local simp] aw_skip' aw_region' aw_seq' aw_cond' aw_block' aw_loop' aw_exit' aw_label' aw_ret' aops_nil' aops_cons' aop' aMove aAssign aPick aAlloc aBox aBuild aBuildSlice aLoad aLoadOwn aStore aStoreOwn isOwn delR aNilCheck aBin aMakeFunc aFieldAddr aField aIndexAddr aExtract aSliceOp aSlice aCallOp aCall' aLen aLenMap aDelete aMM aUn aConv aIface aAssert aMakeMap aLookup aMapUpdate aRange aNext aEntry entsOf keyB lookV aAppend putK layK eval evalV AM.valOf getF putF setF del SV.refers cellsAt rootSV plains shift ldV V.exact V.exactL V.ofValue V.ofPart V.ofCell V.cells V.one Value.oneCell' fitB qSeq qBlock getB afin aret resVs resV resTmps shareF evalS tupV valsS valsV pickV calm calmB lenV useOf feeds looks isT newsV partsV fillV putAt zerosV fitsNil nilB isEq isNeq awx_skip' awx_region' awx_seq' awx_cond' awx_block' awx_loop' awx_exit' awx_label' awx_ret' xops_nil' xops_cons' xop' xload xcall' addO delO inO putD memB Mix.effB Mix.laysB keysF badK subW weakV zeroRow yops_nil' yops_cons' yop' yload yindex yfield ylen oldO dropO takeO oldL exactB
attribute [local simp] awz_skip' awz_region' awz_seq' awz_cond' awz_block' awz_loop' awz_exit' awz_label' awz_ret' zops_nil' zops_cons' zop' zload zcall' z0 new0 remF old0 dltB

theorem apart_big (l : List Re) (h : 40 < l.length) : PFn Try.prog 9 [slR l] (.sc (.bool true)) := by
  have hk := lknown
  have h' : (40 : Int) < l.length := by omega
  refine AFn.intro (fn := Try.f9) (by kernel_rfl) rfl (by kernel_rfl) (by simp) ?_
  simp only [Try.f9, argsF]
  refine AW.seq (AW.ofx [] mixed (by kernel_rfl) ?_)
  simp
  refine AW.seq (AW.ofx [] mixed (by kernel_rfl) ?_)
  simp [slR, h']
  refine callK.pure hk rfl rfl ?_
  simp
theorem apart_bad (l : List Re) (h : l.length ≤ 40) (hw : wrongR l ≠ 0) : PFn Try.prog 9 [slR l] (.sc (.bool true)) := by
  have hk := lknown
  have h' : ¬ (40 : Int) < l.length := by omega
  have hU := rUnion l
  have c1 := slR_closed l
  have c1' := c1
  unfold slR at c1'
  have cp := pairV_closed [] (wrongR l)
  rw [unL_no hw] at hU
  have hn : (wrongR l != 0) = true := by simpa using hw
  refine AFn.intro (fn := Try.f9) (by kernel_rfl) rfl (by kernel_rfl) (by simp) ?_
  simp only [Try.f9, argsF]
  refine AW.seq (AW.ofx [] mixed (by kernel_rfl) ?_)
  simp
  refine AW.seq (AW.ofx [] mixed (by kernel_rfl) ?_)
  simp [slR, h']
  refine AW.seq (AW.ofx [] mixed (by kernel_rfl) ?_)
  simp
  refine callK.pure hU (by simp [V.closedL, V.closed, closed_flat (enc := Re.cs) (fun _ => rfl)]) cp ?_
  simp [pairV]
  refine AW.seq (AW.ofx [] mixed (by kernel_rfl) ?_)
  simp [slR, hn]
  refine callK.pure hk rfl rfl ?_
  simp
def ApI (u : List Re) (k : Nat) (F : Fr) (H : List Bk) : Prop := F = [(3, .v (slR u)), (5, .v (.sc (.int .i64 k)))]
def ApJ (u : List Re) (k j : Nat) (F : Fr) (H : List Bk) : Prop := F = [(3, .v (slR u)), (5, .v (.sc (.int .i64 k))), (6, .v (.sc (.int .i64 j)))]
set_option maxHeartbeats 4000000 in
theorem apart_good (l : List Re) (h : l.length ≤ 40) (hl : wrongR l = 0) : PFn Try.prog 9 [slR l] (.sc (.bool true)) := by
  have hk := lknown
  have h' : ¬ (40 : Int) < l.length := by omega
  have hU := rUnion l
  have hU2 := rUnion (unL l)
  have hR := gRight
  have hM := gMeets
  have c1 := slR_closed l
  have c1' := c1
  unfold slR at c1'
  have cu := slR_closed (unL l)
  have cp := pairV_closed (unL l) 0
  have cp2 := pairV_closed (unL (unL l)) (wrongR (unL l))
  have hlen := unL_len l
  have hr := unL_right l
  have hap := unL_apart l
  have hbig : 256 < (unL l).length → wrongR (unL l) = 2 := wrongR_big
  have hsm : (unL l).length ≤ 256 → wrongR (unL l) = 0 ∧ unL (unL l) = unL l := unL_un hl
  have hq := sameU (unL l) rfl (by omega)
  rw [hl] at hU
  unfold Re.v Re.cs at hR hM
  generalize unL l = u at *
  generalize wrongR u = wu at *
  generalize unL u = uu at *
  refine AFn.intro (fn := Try.f9) (by kernel_rfl) rfl (by kernel_rfl) (by simp) ?_
  simp only [Try.f9, argsF]
  refine AW.seq (AW.ofx [] mixed (by kernel_rfl) ?_)
  simp
  refine AW.seq (AW.ofx [] mixed (by kernel_rfl) ?_)
  simp [slR, h']
  refine AW.seq (AW.ofx [] mixed (by kernel_rfl) ?_)
  simp
  refine callK.pure hU (by simp [V.closedL, V.closed, closed_flat (enc := Re.cs) (fun _ => rfl)]) cp ?_
  simp [pairV]
  refine AW.seq (AW.ofx [] mixed (by kernel_rfl) ?_)
  simp
  refine AW.seq (AW.ofx [] mixed (by kernel_rfl) ?_)
  simp
  refine AW.count u.length (ApI u) ⟨_, ?_, rfl⟩ ?_
  · simp [subW, weakV, getF]
  rintro k F H hk' rfl
  refine AW.ofx [] mixed (by kernel_rfl) ?_
  by_cases hlt : k < u.length
  · have w1 : IntKind.i64.wrap ((k : Int) + 1) = (k : Int) + 1 := by rw [wrap_i64] <;> omega
    have hRk := hR u[k]
    rw [hr _ (List.getElem_mem hlt)] at hRk
    simp [slR, hlt, rowR]
    refine callK.pure hRk rfl rfl ?_
    simp [slR, hlt, rowR]
    refine AW.count k (ApJ u k) ⟨_, ?_, rfl⟩ ?_
    · simp [subW, weakV, getF, slR]
    rintro j F2 H2 hj rfl
    refine AW.ofx [] mixed (by kernel_rfl) ?_
    by_cases hjl : j < k
    · have hj2 : j < u.length := by omega
      have w2 : IntKind.i64.wrap ((j : Int) + 1) = (j : Int) + 1 := by rw [wrap_i64] <;> omega
      have hMk := hM u[k] u[j]
      rw [(List.pairwise_iff_getElem.1 hap) j k hj2 hlt hjl] at hMk
      simp [slR, hlt, hj2, hjl, rowR]
      refine callK.pure hMk rfl rfl ?_
      simp [slR, hlt, hj2, hjl, w2]
      refine ⟨_, ?_, rfl⟩
      simp [subW, weakV, getF, slR]
    · have hjk : j = k := by omega
      subst hjk
      simp [slR, w1]
      refine ⟨_, ?_, rfl⟩
      simp [subW, weakV, getF, slR]
  · have hk2 : k = u.length := by omega
    subst hk2
    simp [slR]
    refine AW.sub [(3, .v (slR u))] (by simp [subF, getF, slR]) ?_
    refine AW.seq (AW.ofx [] mixed (by kernel_rfl) ?_)
    simp
    refine callK.pure hU2 (by simp [V.closedL, cu]) cp2 ?_
    simp [pairV]
    refine AW.sub [(3, .v (slR u)), (7, .v (slR uu)), (8, .v (.sc (.int .i64 wu)))] (by simp [subF, getF]) ?_
    by_cases hbg : 256 < u.length
    · have hbg' : (256 : Int) < u.length := by omega
      rw [hbig hbg]
      refine AW.seq (AW.ofx [] mixed (by kernel_rfl) ?_)
      simp [slR, hbg']
      refine callK.pure hk rfl rfl ?_
      simp
    · have hbg' : ¬ (256 : Int) < u.length := by omega
      obtain ⟨rfl, e2⟩ := hsm (by omega)
      rw [e2]
      refine AW.seq (AW.ofx [] mixed (by kernel_rfl) ?_)
      simp [slR, hbg']
      refine AW.ofx [] mixed (by kernel_rfl) ?_
      simp
      refine callK.pure hq (by simp [V.closedL, V.closed, closed_flat (enc := Re.cs) (fun _ => rfl)]) rfl ?_
      simp
      refine callK.pure hk rfl rfl ?_
      simp
theorem apartLaw (l : List Re) : PFn Try.prog 9 [slR l] (.sc (.bool true)) := by
  by_cases h : 40 < l.length
  · exact apart_big l h
  · by_cases hl : wrongR l = 0
    · exact apart_good l (by omega) hl
    · exact apart_bad l (by omega) hl
end Go.Proofs.Ytoooldijnilpaaa
