/- Regions: the law of covering. -/
import Derived.Test.YtoooldijnilpaaaVn
namespace Go.Proofs.Ytoooldijnilpaaa
set_option linter.all false
open Go.RowKit AM Can
set_option maxRecDepth 10000
attribute [local simp] aw_skip' aw_region' aw_seq' aw_cond' aw_block' aw_loop' aw_exit' aw_label' aw_ret' aops_nil' aops_cons' aop' aMove aAssign aPick aAlloc aBox aBuild aBuildSlice aLoad aLoadOwn aStore aStoreOwn isOwn delR aNilCheck aBin aMakeFunc aFieldAddr aField aIndexAddr aExtract aSliceOp aSlice aCallOp aCall' aLen aLenMap aDelete aMM aUn aConv aIface aAssert aMakeMap aLookup aMapUpdate aRange aNext aEntry entsOf keyB lookV aAppend putK layK eval evalV AM.valOf getF putF setF del SV.refers cellsAt rootSV plains shift ldV V.exact V.exactL V.ofValue V.ofPart V.ofCell V.cells V.one Value.oneCell' fitB qSeq qBlock getB afin aret resVs resV resTmps shareF evalS tupV valsS valsV pickV calm calmB lenV useOf feeds looks isT newsV partsV fillV putAt zerosV fitsNil nilB isEq isNeq awx_skip' awx_region' awx_seq' awx_cond' awx_block' awx_loop' awx_exit' awx_label' awx_ret' xops_nil' xops_cons' xop' xload xcall' addO delO inO putD memB Mix.effB Mix.laysB keysF badK subW weakV zeroRow yops_nil' yops_cons' yop' yload yindex yfield ylen oldO dropO takeO oldL exactB
attribute [local simp] awz_skip' awz_region' awz_seq' awz_cond' awz_block' awz_loop' awz_exit' awz_label' awz_ret' zops_nil' zops_cons' zop' zload zcall' z0 new0 remF old0 dltB

def reB (r : Re) : Bk := .cells [.v (.sc (.int .i64 r.x0)), .v (.sc (.int .i64 r.y0)), .v (.sc (.int .i64 r.x1)), .v (.sc (.int .i64 r.y1))]
theorem covers_big (l : List Re) (r : Re) (h : 12 < l.length) : PFn Try.prog 12 [slR l, r.v] (.sc (.bool true)) := by
  have hk := lknown
  have h' : (12 : Int) < l.length := by omega
  unfold Re.v Re.cs
  refine AFn.intro (fn := Try.f12) (by kernel_rfl) rfl (by kernel_rfl) (by simp) ?_
  simp only [Try.f12, argsF]
  refine AW.seq (AW.ofx [] mixed (by kernel_rfl) ?_)
  simp
  refine AW.seq (AW.ofx [] mixed (by kernel_rfl) ?_)
  simp [slR, h']
  refine callK.pure hk rfl rfl ?_
  simp
theorem covers_bad (l : List Re) (r : Re) (h : l.length ≤ 12) (hw : wrongR l ≠ 0 ∨ rightR r = false) : PFn Try.prog 12 [slR l, r.v] (.sc (.bool true)) := by
  have hk := lknown
  have h' : ¬ (12 : Int) < l.length := by omega
  have hC := rCovers l r
  have hW := refWrong l
  have hG := gRight r
  have c1 := slR_closed l
  rw [both_bad hw] at hC
  unfold Re.v Re.cs at hC hG
  unfold Re.v Re.cs
  have c1' := c1
  unfold slR at c1'
  refine AFn.intro (fn := Try.f12) (by kernel_rfl) rfl (by kernel_rfl) (by simp) ?_
  simp only [Try.f12, argsF]
  refine AW.seq (AW.ofx [] mixed (by kernel_rfl) ?_)
  simp
  refine AW.seq (AW.ofx [] mixed (by kernel_rfl) ?_)
  simp [slR, h']
  refine AW.seq (AW.ofx [] mixed (by kernel_rfl) ?_)
  simp
  refine callK.pure hC (by simp [V.closedL, V.closed, closed_flat (enc := Re.cs) (fun _ => rfl)]) rfl ?_
  simp
  by_cases hl : wrongR l = 0
  · have hr : rightR r = false := hw.resolve_left (fun e => e hl)
    rw [hl] at hW
    rw [hr] at hG
    refine AW.seq (AW.ofx [] mixed (by kernel_rfl) ?_)
    simp
    refine callK.pure hW (by simp [V.closedL, V.closed, closed_flat (enc := Re.cs) (fun _ => rfl)]) rfl ?_
    simp
    refine callK.pure hG rfl rfl ?_
    simp
    refine callK.pure hk rfl rfl ?_
    simp
  · have hn : (wrongR l != 0) = true := by simpa using hl
    refine AW.seq (AW.ofx [] mixed (by kernel_rfl) ?_)
    simp
    refine callK.pure hW (by simp [V.closedL, V.closed, closed_flat (enc := Re.cs) (fun _ => rfl)]) rfl ?_
    simp [hn]
    refine callK.pure hk rfl rfl ?_
    simp
def CoI (l u : List Re) (r : Re) (c : Bool) (k : Nat) (F : Fr) (H : List Bk) : Prop := (∃ L, H = reB r :: L) ∧ F = [(3, .v (.ptr 0 0)), (5, .v (.sc (.bool c))), (6, .v (.sc (.int .u64 (areaL (u.take k) : Nat)))), (7, .v (slR u)), (8, .v (.sc (.int .i64 k)))]
set_option maxHeartbeats 4000000 in
theorem covers_good (l : List Re) (r : Re) (h : l.length ≤ 12) (hl : wrongR l = 0) (hr : rightR r = true) : PFn Try.prog 12 [slR l, r.v] (.sc (.bool true)) := by
  have hk := lknown
  have h' : ¬ (12 : Int) < l.length := by omega
  have hC := rCovers l r
  have hC2 := rCovers [r] r
  have hW := refWrong l
  have hG := gRight r
  have hF := refFormL l [r] 2 hl (wrong_one.2 hr)
  have hA := refArea
  have c1 := slR_closed l
  rw [how2] at hF
  have hb : areaL ((formL andB l [r]).map toRe) ≤ 65536 * 65536 := by
    rw [form_area (cf := andB) rfl (formL_form rfl l [r])]
    exact total_le _ (fun _ => Nat.le_refl _) _ _
  have hlen : ((formL andB l [r]).map toRe).length ≤ 100000 := by
    rw [List.length_map]
    have := formL_len andB l [r]
    rw [List.length_append] at this
    refine Nat.le_trans this (Nat.le_trans (Nat.mul_le_mul (show _ ≤ 28 by simp; omega) (show _ ≤ 28 by simp; omega)) (by decide))
  have cf := slR_closed ((formL andB l [r]).map toRe)
  rw [covers_iff hl hr] at hC
  rw [covers_self hr] at hC2
  rw [hr] at hG
  rw [hl] at hW
  generalize (formL andB l [r]).map toRe = u at *
  unfold Re.v Re.cs at hC hC2 hG hA
  unfold Re.v Re.cs
  have c1' := c1
  unfold slR at c1'
  refine AFn.intro (fn := Try.f12) (by kernel_rfl) rfl (by kernel_rfl) (by simp) ?_
  simp only [Try.f12, argsF]
  refine AW.seq (AW.ofx [] mixed (by kernel_rfl) ?_)
  simp
  refine AW.seq (AW.ofx [] mixed (by kernel_rfl) ?_)
  simp [slR, h']
  refine AW.seq (AW.ofx [] mixed (by kernel_rfl) ?_)
  simp
  refine callK.pure hC (by simp [V.closedL, V.closed, closed_flat (enc := Re.cs) (fun _ => rfl)]) rfl ?_
  simp
  refine AW.seq (AW.ofx [] mixed (by kernel_rfl) ?_)
  simp
  refine callK.pure hW (by simp [V.closedL, V.closed, closed_flat (enc := Re.cs) (fun _ => rfl)]) rfl ?_
  simp
  refine callK.pure hG rfl rfl ?_
  simp
  refine AW.seq (AW.ofx [] mixed (by kernel_rfl) ?_)
  simp
  refine AW.seq (AW.ofx [] mixed (by kernel_rfl) ?_)
  simp
  refine callK.pure hF (by simp [V.closedL, V.closed, closed_flat (enc := Re.cs) (fun _ => rfl)]) cf ?_
  simp
  refine AW.sub [(3, .v (.ptr 0 0)), (5, .v (.sc (.bool (decide (areaL u = areaR r))))), (6, .v (.sc (.int .u64 0))), (7, .v (slR u))] (by simp [subF, getF]) ?_
  refine AW.seq (AW.ofx [] mixed (by kernel_rfl) ?_)
  simp
  refine AW.count u.length (CoI l u r (decide (areaL u = areaR r))) ⟨_, ?_, ⟨[], rfl⟩, rfl⟩ ?_
  · simp [subW, weakV, getF, areaL]
  rintro k F H hk' ⟨⟨L, rfl⟩, rfl⟩
  unfold reB
  refine AW.ofx [] mixed (by kernel_rfl) ?_
  by_cases hlt : k < u.length
  · have w1 : IntKind.i64.wrap ((k : Int) + 1) = (k : Int) + 1 := by rw [wrap_i64] <;> omega
    have hs := areaL_succ hlt
    have ht := areaL_take u (k + 1)
    have w2 : IntKind.u64.wrap ((areaL (u.take k) : Nat) + (areaR u[k] : Nat)) = (areaL (u.take (k + 1)) : Nat) := by rw [wrap_u64] <;> omega
    have hAk := hA u[k]
    simp [slR, hlt, rowR, setL]
    refine callK.pure hAk rfl rfl ?_
    simp [slR, hlt, rowR, setL, w1, w2]
    refine ⟨_, ?_, ⟨L, rfl⟩, rfl⟩
    simp [subW, weakV, getF, slR]
  · have hk2 : k = u.length := by omega
    subst hk2
    rw [List.take_length]
    have hAr := hA r
    simp [slR]
    have hde : ((areaL u : Int) == (areaR r : Int)) = decide (areaL u = areaR r) := by
      rw [Bool.eq_iff_iff]
      simp
      omega
    refine AW.ofx [] mixed (by kernel_rfl) ?_
    simp [slR]
    refine callK.pure hAr rfl rfl ?_
    simp [boolEq, hde]
    refine callK.pure hC2 rfl rfl ?_
    simp
    refine callK.pure hk rfl rfl ?_
    simp
theorem coversLaw (l : List Re) (r : Re) : PFn Try.prog 12 [slR l, r.v] (.sc (.bool true)) := by
  by_cases h : 12 < l.length
  · exact covers_big l r h
  · by_cases hl : wrongR l = 0
    · cases hr : rightR r with
      | true => exact covers_good l r (by omega) hl hr
      | false => exact covers_bad l r (by omega) (.inr hr)
    · exact covers_bad l r (by omega) (.inl hl)
end Go.Proofs.Ytoooldijnilpaaa
