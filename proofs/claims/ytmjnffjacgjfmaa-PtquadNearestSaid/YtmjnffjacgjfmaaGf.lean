/- Rectangles: the program's functions that only reckon, and rows of rectangles. -/
import Derived.Test.YtmjnffjacgjfmaaGb1
namespace Go.Proofs.Ytmjnffjacgjfmaa
set_option linter.all false
open Go.RowKit AM
set_option maxRecDepth 10000
attribute [local simp] aw_skip' aw_region' aw_seq' aw_cond' aw_block' aw_loop' aw_exit' aw_label' aw_ret' aops_nil' aops_cons' aop' aMove aAssign aPick aAlloc aBox aBuild slF aBuildSlice aLoad aLoadOwn aLoadS sharesAt shares sharedV aStore aStoreOwn isOwn delR aNilCheck aBin aMakeFunc aFieldAddr aField aIndexOp aIndex partV aIndexAddr aExtract aSliceOp aSlice slV aShrink aCallOp aCall' aInvoke' aLen aLenMap aDelete aMM aUn aConv aIface aAssert aMakeMap aLookup aMapUpdate aRange aNext aEntry entsOf keyB seekK aMakeSlice lookV aApp aAppendB aAppendF aAppend putK layK eval evalV AM.valOf getF putF setF del SV.refers cellsAt rootSV plains shift ldV V.exact V.exactL V.ofValue V.ofPart V.ofCell V.cells V.one Value.oneCell' fitB qSeq qBlock getB afin aret resVs resV resTmps shareF evalS tupV valsS valsV pickV calm calmB lenV useOf feeds shrinks stows looks isT newsV partsV fillV putAt zerosV fitsNil nilB sliceB isEq isNeq awx_skip' awx_region' awx_seq' awx_cond' awx_block' awx_loop' awx_exit' awx_label' awx_ret' xops_nil' xops_cons' xop' xload xcall' addO delO inO putD memB Mix.effB Mix.laysB keysF badK subW weakV zeroRow yops_nil' yops_cons' yop' yload yindex yfield ylen oldO dropO takeO oldL exactB V.fixed V.fixedL

theorem gLow (r : Re) : PFn Try.prog 86 [r.v] (⟨r.x0, r.y0⟩ : Pt).v := by
  unfold Re.v Re.cs
  refine AFn.intro (fn := Try.f86) (by kernel_rfl) rfl (by kernel_rfl) (by simp) (AW.ofx [] mixed (by kernel_rfl) ?_)
  simp only [Try.f86, argsF]
  simp [setCells, setBlk, Pt.v, Pt.cs]
theorem gHigh (r : Re) : PFn Try.prog 87 [r.v] (⟨r.x1, r.y1⟩ : Pt).v := by
  unfold Re.v Re.cs
  refine AFn.intro (fn := Try.f87) (by kernel_rfl) rfl (by kernel_rfl) (by simp) (AW.ofx [] mixed (by kernel_rfl) ?_)
  simp only [Try.f87, argsF]
  simp [setCells, setBlk, Pt.v, Pt.cs]
theorem gBothFits (r : Re) : PFn Try.prog 67 [r.v, .fn (.func 36) [] []] (.sc (.bool (fits ⟨r.x0, r.y0⟩ && fits ⟨r.x1, r.y1⟩))) := by
  have h1 := gLow r
  have h2 := gHigh r
  have h3 := gFits ⟨r.x0, r.y0⟩
  have h4 := gFits ⟨r.x1, r.y1⟩
  unfold Re.v Re.cs at h1 h2 ⊢
  unfold Pt.v Pt.cs at h1 h2 h3 h4
  refine AFn.intro (fn := Try.f67) (by kernel_rfl) rfl (by kernel_rfl) (by simp) (AW.ofx [] mixed (by kernel_rfl) ?_)
  simp only [Try.f67, argsF]
  simp
  refine callK.pure h1 rfl rfl ?_
  simp
  refine callK.pure h3 rfl rfl ?_
  cases e : fits ⟨r.x0, r.y0⟩ with
  | false => simp
  | true =>
    simp
    refine callK.pure h2 rfl rfl ?_
    simp
    refine callK.pure h4 rfl rfl ?_
    simp
theorem rightR_fits (r : Re) : rightR r = (fits ⟨r.x0, r.y0⟩ && fits ⟨r.x1, r.y1⟩ && decide (r.x0 ≤ r.x1) && decide (r.y0 ≤ r.y1)) := by
  unfold rightR fits
  cases inside r.x0 <;> cases inside r.x1 <;> cases inside r.y0 <;> cases inside r.y1 <;> simp
theorem gRight (r : Re) : PFn Try.prog 50 [r.v] (.sc (.bool (rightR r))) := by
  have h1 := gBothFits r
  rw [rightR_fits]
  unfold Re.v Re.cs at h1 ⊢
  refine AFn.intro (fn := Try.f50) (by kernel_rfl) rfl (by kernel_rfl) (by simp) (AW.ofx [] mixed (by kernel_rfl) ?_)
  simp only [Try.f50, argsF]
  simp
  refine callK.pure h1 rfl rfl ?_
  generalize (fits ⟨r.x0, r.y0⟩ && fits ⟨r.x1, r.y1⟩) = b
  cases b with
  | false => simp
  | true =>
    simp
    refine gd.intro (fun e => ?_) (fun e => ?_)
    · simp at e
      simp [e]
    · simp at e
      have : ¬ r.x0 ≤ r.x1 := by omega
      simp [this]
theorem rightR_iff {r : Re} : rightR r = true ↔ (0 ≤ r.x0 ∧ r.x0 ≤ r.x1 ∧ r.x1 ≤ 65535) ∧ 0 ≤ r.y0 ∧ r.y0 ≤ r.y1 ∧ r.y1 ≤ 65535 := by
  unfold rightR inside
  simp
  omega
theorem hasR_iff {r : Re} {p : Pt} : hasR r p = true ↔ rightR r = true ∧ (r.x0 ≤ p.x ∧ p.x ≤ r.x1) ∧ r.y0 ≤ p.y ∧ p.y ≤ r.y1 := by
  unfold hasR
  simp
  grind
theorem gBoxHas (r : Re) (p : Pt) : PFn Try.prog 92 [r.v, p.v] (.sc (.bool (decide ((r.x0 ≤ p.x ∧ p.x ≤ r.x1) ∧ r.y0 ≤ p.y ∧ p.y ≤ r.y1)))) := by
  unfold Re.v Re.cs Pt.v Pt.cs
  refine AFn.intro (fn := Try.f92) (by kernel_rfl) rfl (by kernel_rfl) (by simp) (AW.ofx [] mixed (by kernel_rfl) ?_)
  simp only [Try.f92, argsF]
  simp
  simp [gd]
  grind
theorem gHas (r : Re) (p : Pt) : PFn Try.prog 72 [r.v, p.v] (.sc (.bool (hasR r p))) := by
  have h1 := gRight r
  have h2 := gFits p
  have h3 := gBoxHas r p
  unfold Re.v Re.cs at h1 h3 ⊢
  unfold Pt.v Pt.cs at h2 h3 ⊢
  refine AFn.intro (fn := Try.f72) (by kernel_rfl) rfl (by kernel_rfl) (by simp) (AW.ofx [] mixed (by kernel_rfl) ?_)
  simp only [Try.f72, argsF]
  simp
  refine callK.pure h1 rfl rfl ?_
  cases e : rightR r with
  | false =>
    have : hasR r p = false := by simp [hasR, e]
    simp [this]
  | true =>
    simp
    refine callK.pure h2 rfl rfl ?_
    cases e2 : fits p with
    | false =>
      have : hasR r p = false := by
        rw [Bool.eq_false_iff]
        intro h
        obtain ⟨q1, q2⟩ := hasR_iff.1 h
        have q3 := rightR_iff.1 q1
        rw [show fits p = true from fits_iff.2 (by omega)] at e2
        cases e2
      simp [this]
    | true =>
      simp
      refine callK.pure h3 rfl rfl ?_
      have : hasR r p = decide ((r.x0 ≤ p.x ∧ p.x ≤ r.x1) ∧ r.y0 ≤ p.y ∧ p.y ≤ r.y1) := by
        rw [Bool.eq_iff_iff, hasR_iff]
        simp [e]
      simp [this]
def meetsR (a b : Re) : Bool := rightR a && rightR b && decide (a.x0 ≤ b.x1 ∧ b.x0 ≤ a.x1 ∧ a.y0 ≤ b.y1 ∧ b.y0 ≤ a.y1)
theorem gMeets (a b : Re) : PFn Try.prog 69 [a.v, b.v] (.sc (.bool (meetsR a b))) := by
  have h1 := gRight a
  have h2 := gRight b
  unfold meetsR
  unfold Re.v Re.cs at h1 h2 ⊢
  refine AFn.intro (fn := Try.f69) (by kernel_rfl) rfl (by kernel_rfl) (by simp) (AW.ofx [] mixed (by kernel_rfl) ?_)
  simp only [Try.f69, argsF]
  simp
  refine callK.pure h1 rfl rfl ?_
  cases e : rightR a with
  | false => simp
  | true =>
    simp
    refine callK.pure h2 rfl rfl ?_
    cases e2 : rightR b with
    | false => simp
    | true =>
      simp
      simp [gd]
      grind
/-! ## Areas -/
def areaR (r : Re) : Nat := if rightR r then ((r.x1 - r.x0 + 1) * (r.y1 - r.y0 + 1)).toNat else 0
theorem area_le (r : Re) : areaR r ≤ 4294967296 := by
  unfold areaR
  split
  · rename_i h
    have h := rightR_iff.1 h
    have h1 : (r.x1 - r.x0 + 1) * (r.y1 - r.y0 + 1) ≤ 65536 * 65536 := Int.mul_le_mul (by omega) (by omega) (by omega) (by omega)
    omega
  · omega
end Go.Proofs.Ytmjnffjacgjfmaa
