/- How far a rectangle that is snapped is from a point: by the program and by the document. -/
import Derived.Test.YtdeemchhbgomjaaGreatHp
namespace Go.Proofs.YtdeemchhbgomjaaGreat
set_option linter.all false
open Go.RowKit AM
set_option maxRecDepth 10000
attribute [local simp] aw_skip' aw_region' aw_seq' aw_cond' aw_block' aw_loop' aw_exit' aw_label' aw_ret' aops_nil' aops_cons' aop' aMove aAssign aPick aAlloc aBox aBuild slF aBuildSlice aLoad aLoadOwn aStore aStoreOwn isOwn delR aNilCheck aBin aMakeFunc aFieldAddr aField aIndexOp aIndex partV aIndexAddr aExtract aSliceOp aSlice aShrink aCallOp aCall' aInvoke' aLen aLenMap aDelete aMM aUn aConv aIface aAssert aMakeMap aLookup aMapUpdate aRange aNext aEntry entsOf keyB seekK aMakeSlice lookV aAppend putK layK eval evalV AM.valOf getF putF setF del SV.refers cellsAt rootSV plains shift ldV V.exact V.exactL V.ofValue V.ofPart V.ofCell V.cells V.one Value.oneCell' fitB qSeq qBlock getB afin aret resVs resV resTmps shareF evalS tupV valsS valsV pickV calm calmB lenV useOf feeds shrinks stows looks isT newsV partsV fillV putAt zerosV fitsNil nilB sliceB isEq isNeq awx_skip' awx_region' awx_seq' awx_cond' awx_block' awx_loop' awx_exit' awx_label' awx_ret' xops_nil' xops_cons' xop' xload xcall' addO delO inO putD memB Mix.effB Mix.laysB keysF badK subW weakV zeroRow yops_nil' yops_cons' yop' yload yindex yfield ylen oldO dropO takeO oldL exactB
attribute [local simp] awz_skip' awz_region' awz_seq' awz_cond' awz_block' awz_loop' awz_exit' awz_label' awz_ret' zops_nil' zops_cons' zop' zload zloadOwn zcall' zlenK z0 new0 remF old0 dltB

def clampZ (n lo hi : Int) : Int := max lo (min hi n)
def gapZ (n a b : Int) : Int := if n < a then a - n else if b < n then n - b else 0
def distR (r : Re) (p : Pt) : Int := if rightR r && fits p then gapZ p.x r.x0 r.x1 * gapZ p.x r.x0 r.x1 + gapZ p.y r.y0 r.y1 * gapZ p.y r.y0 r.y1 else 0
def snapR (r : Re) (l : Int) : Re × Bool := if rightL l && rightR r then (⟨r.x0 - r.x0 % side l, r.y0 - r.y0 % side l, r.x1 - r.x1 % side l + side l - 1, r.y1 - r.y1 % side l + side l - 1⟩, true) else (.zero, false)
theorem sq_le {d : Int} (h : -65535 ≤ d ∧ d ≤ 65535) : 0 ≤ d * d ∧ d * d ≤ 4294836225 := by
  refine ⟨by rcases Int.le_total 0 d with h0 | h0; exact Int.mul_nonneg h0 h0; exact Int.mul_nonneg_of_nonpos_of_nonpos h0 h0, ?_⟩
  rcases Int.le_total 0 d with h0 | h0
  · have := Int.mul_le_mul h.2 h.2 h0 (by omega)
    omega
  · have := Int.mul_le_mul (show -d ≤ 65535 by omega) (show -d ≤ 65535 by omega) (show 0 ≤ -d by omega) (by omega)
    rw [Int.neg_mul_neg] at this
    omega
theorem toU64b (z : Int) : convR Tryz.prog 2 67 (.int .i64 z) = some (.int .u64 (IntKind.u64.wrap z)) := convR_int Ty.u2 Ty.u67
theorem pclamp (n lo hi : Int) : PFn Tryz.prog 108 [.sc (.int .i64 n), .sc (.int .i64 lo), .sc (.int .i64 hi)] (.sc (.int .i64 (clampZ n lo hi))) := by
  refine AFn.intro (fn := Tryz.f108) (by kernel_rfl) rfl (by kernel_rfl) (by simp) (AW.ofx [] mixed (by kernel_rfl) ?_)
  simp only [Tryz.f108, argsF]
  simp [clampZ]
  grind
theorem psquare (a b : Int) (h : -65535 ≤ a - b ∧ a - b ≤ 65535) : PFn Tryz.prog 107 [.sc (.int .i64 a), .sc (.int .i64 b)] (.sc (.int .u64 ((a - b) * (a - b)))) := by
  have h1 := sq_le h
  have w1 : IntKind.i64.wrap (a - b) = a - b := by rw [wrap_i64] <;> omega
  have w2 : IntKind.i64.wrap ((a - b) * (a - b)) = (a - b) * (a - b) := by rw [wrap_i64] <;> omega
  have w3 : IntKind.u64.wrap ((a - b) * (a - b)) = (a - b) * (a - b) := by rw [wrap_u64] <;> omega
  refine AFn.intro (fn := Tryz.f107) (by kernel_rfl) rfl (by kernel_rfl) (by simp) (AW.ofx [] mixed (by kernel_rfl) ?_)
  simp only [Tryz.f107, argsF]
  simp [toU64b, w1, w2, w3]
theorem refGap (n a b : Int) (h1 : 0 ≤ n ∧ n ≤ 65535) (h2 : 0 ≤ a ∧ a ≤ 65535) (h3 : 0 ≤ b ∧ b ≤ 65535) : PFn Tryz.prog 74 [.sc (.int .i64 n), .sc (.int .i64 a), .sc (.int .i64 b)] (.sc (.int .u64 (gapZ n a b))) := by
  have w1 : IntKind.i64.wrap (a - n) = a - n := by rw [wrap_i64] <;> omega
  have w2 : IntKind.i64.wrap (n - b) = n - b := by rw [wrap_i64] <;> omega
  unfold gapZ
  refine AFn.intro (fn := Tryz.f74) (by kernel_rfl) rfl (by kernel_rfl) (by simp) (AW.ofx [] mixed (by kernel_rfl) ?_)
  simp only [Tryz.f74, argsF]
  by_cases c1 : n < a
  · have w3 : IntKind.u64.wrap (a - n) = a - n := by rw [wrap_u64] <;> omega
    simp [toU64, c1, w1, w3]
  · by_cases c2 : b < n
    · have w3 : IntKind.u64.wrap (n - b) = n - b := by rw [wrap_u64] <;> omega
      simp [toU64, c1, c2, w2, w3]
    · simp [c1, c2]
theorem gapZ_range {n a b : Int} (h1 : 0 ≤ n ∧ n ≤ 65535) (h2 : 0 ≤ a ∧ a ≤ 65535) (h3 : 0 ≤ b ∧ b ≤ 65535) : 0 ≤ gapZ n a b ∧ gapZ n a b ≤ 65535 := by
  unfold gapZ
  split
  · omega
  · split <;> omega
theorem fits_rng {p : Pt} (h : fits p = true) : (0 ≤ p.x ∧ p.x ≤ 65535) ∧ (0 ≤ p.y ∧ p.y ≤ 65535) := by simpa [fits, inside] using h
theorem right_rng {r : Re} (h : rightR r = true) : (0 ≤ r.x0 ∧ r.x0 ≤ 65535) ∧ (0 ≤ r.y0 ∧ r.y0 ≤ 65535) ∧ (0 ≤ r.x1 ∧ r.x1 ≤ 65535) ∧ (0 ≤ r.y1 ∧ r.y1 ≤ 65535) ∧ r.x0 ≤ r.x1 ∧ r.y0 ≤ r.y1 := by
  simp [rightR, inside] at h
  omega
theorem distR_range (r : Re) (p : Pt) : 0 ≤ distR r p ∧ distR r p ≤ 8589672450 := by
  unfold distR
  split
  · rename_i h
    simp only [Bool.and_eq_true] at h
    have h1 := right_rng h.1
    have h2 := fits_rng h.2
    have g1 := gapZ_range h2.1 h1.1 h1.2.2.1
    have g2 := gapZ_range h2.2 h1.2.1 h1.2.2.2.1
    have s1 := sq_le (d := gapZ p.x r.x0 r.x1) (by omega)
    have s2 := sq_le (d := gapZ p.y r.y0 r.y1) (by omega)
    omega
  · omega
theorem refDist (r : Re) (p : Pt) : PFn Tryz.prog 55 [r.v, p.v] (.sc (.int .u64 (distR r p))) := by
  have hR := refRightR r
  have hF := refFits p
  unfold Re.v Re.cs at hR ⊢
  unfold Pt.v Pt.cs at hF ⊢
  refine AFn.intro (fn := Tryz.f55) (by kernel_rfl) rfl (by kernel_rfl) (by simp) ?_
  simp only [Tryz.f55, argsF]
  refine AW.seq (AW.ofx [] mixed (by kernel_rfl) ?_)
  simp
  refine AW.seq (AW.ofx [] mixed (by kernel_rfl) ?_)
  simp
  refine callK.pure hR rfl rfl ?_
  cases h1 : rightR r with
  | false =>
    simp [distR, h1]
  | true =>
    simp
    refine callK.pure hF rfl rfl ?_
    cases h2 : fits p with
    | false => simp [distR, h1, h2]
    | true =>
      have r1 := right_rng h1
      have r2 := fits_rng h2
      have g1 := gapZ_range r2.1 r1.1 r1.2.2.1
      have g2 := gapZ_range r2.2 r1.2.1 r1.2.2.2.1
      have G1 := refGap p.x r.x0 r.x1 r2.1 r1.1 r1.2.2.1
      have G2 := refGap p.y r.y0 r.y1 r2.2 r1.2.1 r1.2.2.2.1
      have hd : distR r p = gapZ p.x r.x0 r.x1 * gapZ p.x r.x0 r.x1 + gapZ p.y r.y0 r.y1 * gapZ p.y r.y0 r.y1 := by simp [distR, h1, h2]
      generalize gapZ p.x r.x0 r.x1 = a at *
      generalize gapZ p.y r.y0 r.y1 = b at *
      have s1 := sq_le (d := a) (by omega)
      have s2 := sq_le (d := b) (by omega)
      have w1 : IntKind.u64.wrap (a * a) = a * a := by rw [wrap_u64] <;> omega
      have w2 : IntKind.u64.wrap (b * b) = b * b := by rw [wrap_u64] <;> omega
      have w3 : IntKind.u64.wrap (a * a + b * b) = a * a + b * b := by rw [wrap_u64] <;> omega
      rw [hd]
      simp
      refine AW.seq (AW.ofx [] mixed (by kernel_rfl) ?_)
      simp
      refine callK.pure G1 rfl rfl ?_
      simp
      refine AW.seq (AW.ofx [] mixed (by kernel_rfl) ?_)
      simp
      refine callK.pure G2 rfl rfl ?_
      simp
      refine AW.ofx [] mixed (by kernel_rfl) ?_
      simp [w1, w2, w3]
theorem pnearest (r : Re) (p : Pt) (h1 : rightR r = true) (h2 : fits p = true) : PFn Tryz.prog 86 [r.v, p.v] (⟨clampZ p.x r.x0 r.x1, clampZ p.y r.y0 r.y1⟩ : Pt).v := by
  have hR := gRight r
  have hF := gFits p
  rw [h1] at hR
  rw [h2] at hF
  unfold Re.v Re.cs at hR ⊢
  unfold Pt.v Pt.cs at hF ⊢
  refine AFn.intro (fn := Tryz.f86) (by kernel_rfl) rfl (by kernel_rfl) (by simp) ?_
  simp only [Tryz.f86, argsF]
  refine AW.seq (AW.ofx [(3, 13, [3, 2])] mixed (by kernel_rfl) ?_)
  simp
  refine AW.seq (AW.ofx [(3, 13, [3, 2])] mixed (by kernel_rfl) ?_)
  simp
  refine callK.pure hR rfl rfl ?_
  simp
  refine callK.pure hF rfl rfl ?_
  simp
  refine AW.ofx [(3, 13, [3, 2])] mixed (by kernel_rfl) ?_
  simp
  refine callK.pure (pclamp _ _ _) rfl rfl ?_
  simp
  refine callK.pure (pclamp _ _ _) rfl rfl ?_
  simp [setCells, setBlk]
theorem papart (p q : Pt) (h1 : fits p = true) (h2 : fits q = true) : PFn Tryz.prog 85 [p.v, q.v] (.sc (.int .u64 ((p.x - q.x) * (p.x - q.x) + (p.y - q.y) * (p.y - q.y)))) := by
  have hP := gFits p
  have hQ := gFits q
  rw [h1] at hP
  rw [h2] at hQ
  have r1 := fits_rng h1
  have r2 := fits_rng h2
  have q1 := psquare p.x q.x (by omega)
  have q2 := psquare p.y q.y (by omega)
  have s1 := sq_le (d := p.x - q.x) (by omega)
  have s2 := sq_le (d := p.y - q.y) (by omega)
  have w3 : IntKind.u64.wrap ((p.x - q.x) * (p.x - q.x) + (p.y - q.y) * (p.y - q.y)) = (p.x - q.x) * (p.x - q.x) + (p.y - q.y) * (p.y - q.y) := by rw [wrap_u64] <;> omega
  unfold Pt.v Pt.cs at hP hQ ⊢
  refine AFn.intro (fn := Tryz.f85) (by kernel_rfl) rfl (by kernel_rfl) (by simp) ?_
  simp only [Tryz.f85, argsF]
  refine AW.seq (AW.ofx [(3, 9, [2, 3])] mixed (by kernel_rfl) ?_)
  simp
  refine AW.seq (AW.ofx [(3, 9, [2, 3])] mixed (by kernel_rfl) ?_)
  simp
  refine callK.pure hP rfl rfl ?_
  simp
  refine callK.pure hQ rfl rfl ?_
  simp
  refine AW.ofx [(3, 9, [2, 3])] mixed (by kernel_rfl) ?_
  simp
  refine callK.pure q1 rfl rfl ?_
  simp
  refine callK.pure q2 rfl rfl ?_
  simp [w3]
theorem clamp_gap {n a b : Int} (h : a ≤ b) : (n - clampZ n a b) * (n - clampZ n a b) = gapZ n a b * gapZ n a b := by
  have e : n - clampZ n a b = gapZ n a b ∨ n - clampZ n a b = - gapZ n a b := by
    unfold clampZ gapZ
    split
    · right; omega
    · split
      · left; omega
      · left; omega
  rcases e with e | e
  · rw [e]
  · rw [e, Int.neg_mul_neg]
theorem pdist (r : Re) (p : Pt) : PFn Tryz.prog 71 [r.v, p.v] (.sc (.int .u64 (distR r p))) := by
  have hR := gRight r
  have hF := gFits p
  have hN := pnearest r p
  have hA := papart p ⟨clampZ p.x r.x0 r.x1, clampZ p.y r.y0 r.y1⟩
  have hcl : rightR r = true → fits p = true → fits ⟨clampZ p.x r.x0 r.x1, clampZ p.y r.y0 r.y1⟩ = true := fun h1 h2 => by
    have r1 := right_rng h1
    have r2 := fits_rng h2
    have k1 : 0 ≤ clampZ p.x r.x0 r.x1 ∧ clampZ p.x r.x0 r.x1 ≤ 65535 := by unfold clampZ; omega
    have k2 : 0 ≤ clampZ p.y r.y0 r.y1 ∧ clampZ p.y r.y0 r.y1 ≤ 65535 := by unfold clampZ; omega
    simp [fits, inside, k1, k2]
  unfold Re.v Re.cs at hR hN ⊢
  unfold Pt.v Pt.cs at hF hN hA ⊢
  refine AFn.intro (fn := Tryz.f71) (by kernel_rfl) rfl (by kernel_rfl) (by simp) ?_
  simp only [Tryz.f71, argsF]
  refine AW.seq (AW.ofx [(3, 4, [3, 2])] mixed (by kernel_rfl) ?_)
  simp
  refine AW.seq (AW.ofx [(3, 4, [3, 2])] mixed (by kernel_rfl) ?_)
  simp
  refine callK.pure hR rfl rfl ?_
  cases h1 : rightR r with
  | false =>
    simp [distR, h1]
  | true =>
    simp
    refine callK.pure hF rfl rfl ?_
    cases h2 : fits p with
    | false => simp [distR, h1, h2]
    | true =>
      have r1 := right_rng h1
      have hd : distR r p = (p.x - clampZ p.x r.x0 r.x1) * (p.x - clampZ p.x r.x0 r.x1) + (p.y - clampZ p.y r.y0 r.y1) * (p.y - clampZ p.y r.y0 r.y1) := by
        rw [clamp_gap (by omega), clamp_gap (by omega)]
        simp [distR, h1, h2]
      rw [hd]
      simp
      refine AW.ofx [(3, 4, [3, 2])] mixed (by kernel_rfl) ?_
      simp
      refine callK.pure (hN h1 h2) rfl rfl ?_
      simp
      refine callK.pure (hA h2 (hcl h1 h2)) rfl rfl ?_
      simp
end Go.Proofs.YtdeemchhbgomjaaGreat
namespace Go.Proofs.YtdeemchhbgomjaaGreat
set_option linter.all false
open Go.RowKit AM
set_option maxRecDepth 10000
attribute [local simp] aw_skip' aw_region' aw_seq' aw_cond' aw_block' aw_loop' aw_exit' aw_label' aw_ret' aops_nil' aops_cons' aop' aMove aAssign aPick aAlloc aBox aBuild slF aBuildSlice aLoad aLoadOwn aStore aStoreOwn isOwn delR aNilCheck aBin aMakeFunc aFieldAddr aField aIndexOp aIndex partV aIndexAddr aExtract aSliceOp aSlice aShrink aCallOp aCall' aInvoke' aLen aLenMap aDelete aMM aUn aConv aIface aAssert aMakeMap aLookup aMapUpdate aRange aNext aEntry entsOf keyB seekK aMakeSlice lookV aAppend putK layK eval evalV AM.valOf getF putF setF del SV.refers cellsAt rootSV plains shift ldV V.exact V.exactL V.ofValue V.ofPart V.ofCell V.cells V.one Value.oneCell' fitB qSeq qBlock getB afin aret resVs resV resTmps shareF evalS tupV valsS valsV pickV calm calmB lenV useOf feeds shrinks stows looks isT newsV partsV fillV putAt zerosV fitsNil nilB sliceB isEq isNeq awx_skip' awx_region' awx_seq' awx_cond' awx_block' awx_loop' awx_exit' awx_label' awx_ret' xops_nil' xops_cons' xop' xload xcall' addO delO inO putD memB Mix.effB Mix.laysB keysF badK subW weakV zeroRow yops_nil' yops_cons' yop' yload yindex yfield ylen oldO dropO takeO oldL exactB
attribute [local simp] awz_skip' awz_region' awz_seq' awz_cond' awz_block' awz_loop' awz_exit' awz_label' awz_ret' zops_nil' zops_cons' zop' zload zloadOwn zcall' zlenK z0 new0 remF old0 dltB

theorem sub_mod {x s : Int} (h : 0 < s) : x - x % s = s * (x / s) := by
  have := Int.emod_add_mul_ediv x s
  omega
theorem side_rng {l : Int} (h0 : 0 ≤ l) (h : l ≤ 16) : 0 < side l ∧ side l ≤ 65536 := ⟨two_pos _, two_le (by omega)⟩
theorem psnap (r : Re) (l : Int) : PFn Tryz.prog 70 [r.v, .sc (.int .i64 l)] (.tup [(snapR r l).1.v, .sc (.bool (snapR r l).2)]) := by
  have hR := gRight r
  unfold Re.v Re.cs at hR ⊢
  refine AFn.intro (fn := Tryz.f70) (by kernel_rfl) rfl (by kernel_rfl) (by simp) ?_
  simp only [Tryz.f70, argsF]
  refine AW.seq (AW.ofx [] mixed (by kernel_rfl) ?_)
  simp
  refine AW.seq (AW.ofx [] mixed (by kernel_rfl) ?_)
  simp
  refine callK.pure (cright _) rfl rfl ?_
  cases h1 : rightL l with
  | false => simp [snapR, h1, Re.zero, setCells, setBlk]
  | true =>
    simp
    refine callK.pure hR rfl rfl ?_
    cases h2 : rightR r with
    | false => simp [snapR, h1, h2, Re.zero, setCells, setBlk]
    | true =>
      have hl := rightL_iff.1 h1
      have rr := right_rng h2
      have hf := right_fits h2
      have hs := side_rng hl.1 hl.2
      have c1 := cell_right hf.1 hl.1 hl.2
      have c2 := cell_right hf.2 hl.1 hl.2
      have o1 := cof r.lo l hl.1 hl.2 (by simp [Re.lo]; omega) (by simp [Re.lo]; omega)
      have o2 := cof r.hi l hl.1 hl.2 (by simp [Re.hi]; omega) (by simp [Re.hi]; omega)
      have b1 := cBox (cellOf r.lo l)
      have b2 := cBox (cellOf r.hi l)
      unfold boxR at b1 b2
      rw [c1] at b1
      rw [c2] at b2
      simp only [if_true] at b1 b2
      have e1 : boxOf (cellOf r.lo l) = ⟨side l * (r.x0 / side l), side l * (r.y0 / side l), side l * (r.x0 / side l) + side l - 1, side l * (r.y0 / side l) + side l - 1⟩ := rfl
      have e2 : boxOf (cellOf r.hi l) = ⟨side l * (r.x1 / side l), side l * (r.y1 / side l), side l * (r.x1 / side l) + side l - 1, side l * (r.y1 / side l) + side l - 1⟩ := rfl
      rw [e1] at b1
      rw [e2] at b2
      have hsn : snapR r l = (⟨side l * (r.x0 / side l), side l * (r.y0 / side l), side l * (r.x1 / side l) + side l - 1, side l * (r.y1 / side l) + side l - 1⟩, true) := by
        simp [snapR, h1, h2, sub_mod hs.1]
      rw [hsn]
      clear hsn e1 e2
      generalize cellOf r.lo l = ca at *
      generalize cellOf r.hi l = cb at *
      unfold Re.lo at o1
      unfold Re.hi at o2
      unfold Pt.v Pt.cs Ce.v Ce.cs at o1 o2
      unfold Ce.v Ce.cs Re.v Re.cs at b1 b2
      simp
      refine AW.seq (AW.ofx [] mixed (by kernel_rfl) ?_)
      simp
      refine callK.pure o1 rfl rfl ?_
      simp
      refine callK.pure b1 rfl rfl ?_
      simp [setCells, setBlk]
      refine AW.seq (AW.ofx [] mixed (by kernel_rfl) ?_)
      simp
      refine callK.pure o2 rfl rfl ?_
      simp
      refine callK.pure b2 rfl rfl ?_
      simp [setCells, setBlk]
      refine AW.ofx [] mixed (by kernel_rfl) ?_
      simp [setCells, setBlk]
theorem refSnap (r : Re) (l : Int) : PFn Tryz.prog 54 [r.v, .sc (.int .i64 l)] (.tup [(snapR r l).1.v, .sc (.bool (snapR r l).2)]) := by
  have hR := refRightR r
  unfold Re.v Re.cs at hR ⊢
  refine AFn.intro (fn := Tryz.f54) (by kernel_rfl) rfl (by kernel_rfl) (by simp) ?_
  simp only [Tryz.f54, argsF]
  refine AW.seq (AW.ofx [] mixed (by kernel_rfl) ?_)
  simp
  refine AW.seq (AW.ofx [] mixed (by kernel_rfl) ?_)
  simp
  refine callK.pure (refLevel _) rfl rfl ?_
  cases h1 : rightL l with
  | false => simp [snapR, h1, Re.zero, setCells, setBlk]
  | true =>
    simp
    refine callK.pure hR rfl rfl ?_
    cases h2 : rightR r with
    | false => simp [snapR, h1, h2, Re.zero, setCells, setBlk]
    | true =>
      have hl := rightL_iff.1 h1
      have rr := right_rng h2
      have hs := side_rng hl.1 hl.2
      have hS := refSide l hl.1 hl.2
      have hsn : snapR r l = (⟨r.x0 - r.x0 % side l, r.y0 - r.y0 % side l, r.x1 - r.x1 % side l + side l - 1, r.y1 - r.y1 % side l + side l - 1⟩, true) := by
        simp [snapR, h1, h2]
      rw [hsn]
      generalize side l = s at *
      have md : ∀ x, 0 ≤ x → x ≤ 65535 → 0 ≤ x % s ∧ x % s ≤ x ∧ x % s < s := fun x h0 h1 => ⟨Int.emod_nonneg _ (by omega), by
        have e := Int.emod_add_mul_ediv x s
        have q := Int.ediv_nonneg h0 (show 0 ≤ s by omega)
        have m := Int.mul_nonneg (show 0 ≤ s by omega) q
        omega, Int.emod_lt_of_pos _ hs.1⟩
      have w : ∀ x, 0 ≤ x → x ≤ 65535 → Int.tmod x s = x % s ∧ IntKind.i64.wrap (x - x % s) = x - x % s ∧ IntKind.i64.wrap (x - x % s + s) = x - x % s + s ∧ IntKind.i64.wrap (x - x % s + s - 1) = x - x % s + s - 1 := fun x h0 h1 => by
        have := md x h0 h1
        rw [Int.tmod_eq_emod_of_nonneg h0]
        refine ⟨rfl, ?_, ?_, ?_⟩ <;> rw [wrap_i64] <;> omega
      have wa := w r.x0 rr.1.1 rr.1.2
      have wb := w r.y0 rr.2.1.1 rr.2.1.2
      have wc := w r.x1 rr.2.2.1.1 rr.2.2.1.2
      have wd := w r.y1 rr.2.2.2.1.1 rr.2.2.2.1.2
      have hs0 : ¬ s = 0 := by omega
      simp
      refine AW.seq (AW.ofx [] mixed (by kernel_rfl) ?_)
      simp
      refine callK.pure hS rfl rfl ?_
      simp
      refine AW.ofx [] mixed (by kernel_rfl) ?_
      simp [binR_rem, hs0, wa, wb, wc, wd, setCells, setBlk]
def farR (s : Sh) (p : Pt) (l : Int) : Int := distR (snapR s.box l).1 p
theorem refFar (s : Sh) (p : Pt) (l : Int) : PFn Tryz.prog 33 [s.v, p.v, .sc (.int .i64 l)] (.sc (.int .u64 (farR s p l))) := by
  have hS := refSnap s.box l
  have hD := refDist (snapR s.box l).1 p
  unfold farR
  generalize snapR s.box l = sn at *
  obtain ⟨b, ok⟩ := sn
  simp only at hS hD ⊢
  generalize distR b p = dd at *
  unfold Re.v Re.cs at hS hD
  unfold Pt.v Pt.cs at hD ⊢
  unfold Sh.v Sh.cs
  refine AFn.intro (fn := Tryz.f33) (by kernel_rfl) rfl (by kernel_rfl) (by simp) ?_
  simp only [Tryz.f33, argsF]
  refine AW.seq (AW.ofx [] mixed (by kernel_rfl) ?_)
  simp
  refine AW.seq (AW.ofx [] mixed (by kernel_rfl) ?_)
  simp
  refine callK.pure hS rfl rfl ?_
  simp [setCells, setBlk]
  refine AW.ofx [] mixed (by kernel_rfl) ?_
  simp
  refine callK.pure hD rfl rfl ?_
  simp
end Go.Proofs.YtdeemchhbgomjaaGreat
