/- Regions: the law of points. -/
import Derived.Test.YtoooldijnilpaaaVm
namespace Go.Proofs.Ytoooldijnilpaaa
set_option linter.all false
open Go.RowKit AM Can
set_option maxRecDepth 10000
attribute [local simp] aw_skip' aw_region' aw_seq' aw_cond' aw_block' aw_loop' aw_exit' aw_label' aw_ret' aops_nil' aops_cons' aop' aMove aAssign aPick aAlloc aBox aBuild aBuildSlice aLoad aLoadOwn aStore aStoreOwn isOwn delR aNilCheck aBin aMakeFunc aFieldAddr aField aIndexAddr aExtract aSliceOp aSlice aCallOp aCall' aLen aLenMap aDelete aMM aUn aConv aIface aAssert aMakeMap aLookup aMapUpdate aRange aNext aEntry entsOf keyB lookV aAppend putK layK eval evalV AM.valOf getF putF setF del SV.refers cellsAt rootSV plains shift ldV V.exact V.exactL V.ofValue V.ofPart V.ofCell V.cells V.one Value.oneCell' fitB qSeq qBlock getB afin aret resVs resV resTmps shareF evalS tupV valsS valsV pickV calm calmB lenV useOf feeds looks isT newsV partsV fillV putAt zerosV fitsNil nilB isEq isNeq awx_skip' awx_region' awx_seq' awx_cond' awx_block' awx_loop' awx_exit' awx_label' awx_ret' xops_nil' xops_cons' xop' xload xcall' addO delO inO putD memB Mix.effB Mix.laysB keysF badK subW weakV zeroRow yops_nil' yops_cons' yop' yload yindex yfield ylen oldO dropO takeO oldL exactB
attribute [local simp] awz_skip' awz_region' awz_seq' awz_cond' awz_block' awz_loop' awz_exit' awz_label' awz_ret' zops_nil' zops_cons' zop' zload zcall' z0 new0 remF old0 dltB

theorem opL_ok {cf : Bool → Bool → Bool} {a b : List Re} (h : bothR a b = 0) : opL cf a b = (formL cf a b).map toRe := by unfold opL; rw [if_pos h]
theorem opL_no {cf : Bool → Bool → Bool} {a b : List Re} (h : bothR a b ≠ 0) : opL cf a b = [] := by unfold opL; rw [if_neg h]
theorem opL_right {cf : Bool → Bool → Bool} (hno : cf false false = false) (a b : List Re) : ∀ r ∈ opL cf a b, rightR r = true := by
  unfold opL
  split
  · exact form_right hno (formL_form hno a b)
  · simp
theorem opL_has {cf : Bool → Bool → Bool} (hno : cf false false = false) {a b : List Re} (h : bothR a b = 0) (x y : Int) : hasL (opL cf a b) x y = cf (hasL a x y) (hasL b x y) := by
  rw [opL_ok h]
  exact form_has hno (formL_form hno a b) x y
theorem opL_wrong {cf : Bool → Bool → Bool} (hno : cf false false = false) (a b : List Re) (hl : (opL cf a b).length ≤ 256) : wrongR (opL cf a b) = 0 := wrongR_ok.2 ⟨hl, opL_right hno a b⟩
theorem points_big (a b : List Re) (p : Pt) (h : 40 < a.length ∨ 40 < b.length) : PFn Try.prog 14 [slR a, slR b, p.v] (.sc (.bool true)) := by
  have hk := lknown
  unfold Pt.v Pt.cs
  refine AFn.intro (fn := Try.f14) (by kernel_rfl) rfl (by kernel_rfl) (by simp) ?_
  simp only [Try.f14, argsF]
  by_cases h1 : 40 < a.length
  · have h1' : (40 : Int) < a.length := by omega
    refine AW.seq (AW.ofx [(5, 5, [0, 5, 1])] mixed (by kernel_rfl) ?_)
    simp
    refine AW.seq (AW.ofx [(5, 5, [0, 5, 1])] mixed (by kernel_rfl) ?_)
    simp [slR, h1']
    refine callK.pure hk rfl rfl ?_
    simp
  · have h1' : ¬ (40 : Int) < a.length := by omega
    have h2' : (40 : Int) < b.length := by omega
    refine AW.seq (AW.ofx [(5, 5, [0, 5, 1])] mixed (by kernel_rfl) ?_)
    simp
    refine AW.seq (AW.ofx [(5, 5, [0, 5, 1])] mixed (by kernel_rfl) ?_)
    simp [slR, h1', h2']
    refine callK.pure hk rfl rfl ?_
    simp
set_option maxHeartbeats 4000000 in
theorem points_small (a b : List Re) (p : Pt) (ha : a.length ≤ 40) (hb : b.length ≤ 40) : PFn Try.prog 14 [slR a, slR b, p.v] (.sc (.bool true)) := by
  have hk := lknown
  have hM := rMinus a b
  have hT := rMeet a b
  have hA := rHas a p
  have hB := rHas b p
  have c1 := slR_closed a
  have c2 := slR_closed b
  have d2 := pairV_closed (opL lessB a b) (bothR a b)
  have d3 := pairV_closed (opL andB a b) (bothR a b)
  have c3 := slR_closed (opL lessB a b)
  have c4 := slR_closed (opL andB a b)
  have hA2 := rHas (opL lessB a b) p
  have hB2 := rHas (opL andB a b) p
  have hR := refHasL a p.x p.y (by omega)
  have h1' : ¬ (40 : Int) < a.length := by omega
  have h2' : ¬ (40 : Int) < b.length := by omega
  have hno : bothR a b ≠ 0 → opL lessB a b = [] ∧ opL andB a b = [] := fun h => ⟨opL_no h, opL_no h⟩
  have hyes : bothR a b = 0 → hasP a p = hasL a p.x p.y ∧ ((opL lessB a b).length ≤ 256 → hasP (opL lessB a b) p = (hasP a p && !hasP b p)) ∧ ((opL andB a b).length ≤ 256 → hasP (opL andB a b) p = (hasP a p && hasP b p)) := fun h => by
    obtain ⟨h1, h2⟩ := bothR_ok.1 h
    unfold hasP
    rw [h1, h2]
    refine ⟨rfl, fun hl => ?_, fun hl => ?_⟩
    · rw [opL_wrong rfl _ _ hl, opL_has rfl h]
      rfl
    · rw [opL_wrong rfl _ _ hl, opL_has rfl h]
      rfl
  generalize hasP (opL lessB a b) p = pm at *
  generalize hasP (opL andB a b) p = pt at *
  generalize hasP a p = pa at *
  generalize hasP b p = pb at *
  generalize hasL a p.x p.y = pr at *
  generalize opL lessB a b = m at *
  generalize opL andB a b = t at *
  generalize bothR a b = wb at *
  unfold Pt.v Pt.cs at hA hB hA2 hB2
  unfold Pt.v Pt.cs
  refine AFn.intro (fn := Try.f14) (by kernel_rfl) rfl (by kernel_rfl) (by simp) ?_
  simp only [Try.f14, argsF]
  refine AW.seq (AW.ofx [(5, 5, [0, 5, 1])] mixed (by kernel_rfl) ?_)
  simp
  refine AW.seq (AW.ofx [(5, 5, [0, 5, 1])] mixed (by kernel_rfl) ?_)
  simp [slR, h1', h2']
  refine AW.seq (AW.ofx [(5, 5, [0, 5, 1])] mixed (by kernel_rfl) ?_)
  simp
  have c1' := c1
  have c2' := c2
  unfold slR at c1' c2'
  refine callK.pure hM (by simp [V.closedL, c1', c2']) d2 ?_
  simp [pairV]
  refine AW.seq (AW.ofx [(5, 5, [0, 5, 1])] mixed (by kernel_rfl) ?_)
  simp
  refine callK.pure hT (by simp [V.closedL, c1', c2']) d3 ?_
  simp [pairV]
  refine AW.sub [(0, .v (slR a)), (1, .v (slR b)), (5, .v (.ptr 0 0)), (7, .v (slR m)), (8, .v (.sc (.int .i64 wb))), (9, .v (slR t)), (10, .v (.sc (.int .i64 wb)))] (by simp [subF, getF, slR]) ?_
  refine AW.seq (AW.ofx [(5, 5, [0, 5, 1])] mixed (by kernel_rfl) ?_)
  simp
  refine callK.pure hA (by simp [V.closedL, V.closed, c1]) rfl ?_
  simp
  refine callK.pure hB (by simp [V.closedL, V.closed, c2]) rfl ?_
  simp
  refine AW.sub [(0, .v (slR a)), (5, .v (.ptr 0 0)), (7, .v (slR m)), (8, .v (.sc (.int .i64 wb))), (9, .v (slR t)), (10, .v (.sc (.int .i64 wb))), (11, .v (.sc (.bool pa))), (12, .v (.sc (.bool pb)))] (by simp [subF, getF]) ?_
  by_cases hw : wb = 0
  · subst hw
    obtain ⟨rfl, y1, y2⟩ := hyes rfl
    refine AW.seq (AW.ofx [(5, 5, [0, 5, 1])] mixed (by kernel_rfl) ?_)
    simp
    by_cases hl1 : 256 < m.length
    · have hl1' : (256 : Int) < m.length := by omega
      refine AW.seq (AW.ofx [(5, 5, [0, 5, 1])] mixed (by kernel_rfl) ?_)
      simp [slR, hl1']
      refine callK.pure hk rfl rfl ?_
      simp
    have hl1' : ¬ (256 : Int) < m.length := by omega
    by_cases hl2 : 256 < t.length
    · have hl2' : (256 : Int) < t.length := by omega
      refine AW.seq (AW.ofx [(5, 5, [0, 5, 1])] mixed (by kernel_rfl) ?_)
      simp [slR, hl1', hl2']
      refine callK.pure hk rfl rfl ?_
      simp
    have hl2' : ¬ (256 : Int) < t.length := by omega
    have y1 := y1 (by omega)
    have y2 := y2 (by omega)
    subst y1 y2
    have c1' := c1
    have c3' := c3
    have c4' := c4
    unfold slR at c1' c3' c4'
    refine AW.seq (AW.ofx [(5, 5, [0, 5, 1])] mixed (by kernel_rfl) ?_)
    simp [slR, hl1', hl2']
    refine AW.sub [(0, .v (slR a)), (5, .v (.ptr 0 0)), (7, .v (slR m)), (9, .v (slR t)), (11, .v (.sc (.bool pa))), (12, .v (.sc (.bool pb)))] (by simp [subF, getF, slR]) ?_
    cases pa <;> cases pb
    all_goals
      refine AW.ofx [(5, 5, [0, 5, 1])] mixed (by kernel_rfl) ?_
      simp [boolEq]
      refine callK.pure hR (by simp [V.closedL, V.closed, c1]) rfl ?_
      simp [boolEq]
      refine callK.pure hA2 (by simp [V.closedL, V.closed, c3]) rfl ?_
      simp [boolEq]
      refine callK.pure hB2 (by simp [V.closedL, V.closed, c4]) rfl ?_
      simp [boolEq]
      refine callK.pure hk rfl rfl ?_
      simp [boolEq]
  · obtain ⟨rfl, rfl⟩ := hno hw
    have hwn : (wb == 0) = false := by simpa using hw
    have hw2 : (wb != 0) = true := by simpa using hw
    have w0 : IntKind.i64.wrap 0 = 0 := by decide
    refine AW.seq (AW.ofx [(5, 5, [0, 5, 1])] mixed (by kernel_rfl) ?_)
    simp [slR, hw, hwn, hw2, w0]
    refine callK.pure hk rfl rfl ?_
    simp
theorem pointsLaw (a b : List Re) (p : Pt) : PFn Try.prog 14 [slR a, slR b, p.v] (.sc (.bool true)) := by
  by_cases h : 40 < a.length ∨ 40 < b.length
  · exact points_big a b p h
  · exact points_small a b p (by omega) (by omega)
end Go.Proofs.Ytoooldijnilpaaa
