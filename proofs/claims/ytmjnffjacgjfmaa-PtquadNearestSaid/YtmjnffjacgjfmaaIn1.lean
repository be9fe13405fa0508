/- Distances; queues over the abstract memory; the first of a queue. -/
import Derived.Test.YtmjnffjacgjfmaaHd
import Derived.Test.YtmjnffjacgjfmaaQp
import Derived.Test.YtmjnffjacgjfmaaAt1
import Derived.Test.YtmjnffjacgjfmaaNu
import Derived.Test.YtmjnffjacgjfmaaBe1
namespace Go.Proofs.Ytmjnffjacgjfmaa
set_option linter.all false
open Go.RowKit AM
set_option maxRecDepth 10000
attribute [local simp] aw_skip' aw_region' aw_seq' aw_cond' aw_block' aw_loop' aw_exit' aw_label' aw_ret' aops_nil' aops_cons' aop' aMove aAssign aPick aAlloc aBox aBuild slF aBuildSlice aLoad aLoadOwn aLoadS sharesAt shares sharedV aStore aStoreOwn isOwn delR aNilCheck aBin aMakeFunc aFieldAddr aField aIndexOp aIndex partV aIndexAddr aExtract aSliceOp aSlice slV aShrink aCallOp aCall' aInvoke' aLen aLenMap aDelete aMM aUn aConv aIface aAssert aMakeMap aLookup aMapUpdate aRange aNext aEntry entsOf keyB seekK aMakeSlice lookV aApp aAppendB aAppendF aAppend putK layK eval evalV AM.valOf getF putF setF del SV.refers cellsAt rootSV plains shift ldV V.exact V.exactL V.ofValue V.ofPart V.ofCell V.cells V.one Value.oneCell' fitB qSeq qBlock getB afin aret resVs resV resTmps shareF evalS tupV valsS valsV pickV calm calmB lenV useOf feeds shrinks stows looks isT newsV partsV fillV putAt zerosV fitsNil nilB sliceB isEq isNeq awx_skip' awx_region' awx_seq' awx_cond' awx_block' awx_loop' awx_exit' awx_label' awx_ret' xops_nil' xops_cons' xop' xload xcall' addO delO inO putD memB Mix.effB Mix.laysB keysF badK subW weakV zeroRow yops_nil' yops_cons' yop' yload yindex yfield ylen oldO dropO takeO oldL exactB V.fixed V.fixedL
attribute [local simp] awz_skip' awz_region' awz_seq' awz_cond' awz_block' awz_loop' awz_exit' awz_label' awz_ret' zops_nil' zops_cons' zop' zload zloadOwn zcall' zlenK z0 new0 remF old0 dltB

def clampZ (n lo hi : Int) : Int := max lo (min hi n)
def gapZ (n a b : Int) : Int := if n < a then a - n else if b < n then n - b else 0
def distR (r : Re) (p : Pt) : Int := if rightR r && fits p then gapZ p.x r.x0 r.x1 * gapZ p.x r.x0 r.x1 + gapZ p.y r.y0 r.y1 * gapZ p.y r.y0 r.y1 else 0
def snapR (r : Re) (l : Int) : Re × Bool := if rightL l && rightR r then (⟨r.x0 - r.x0 % side l, r.y0 - r.y0 % side l, r.x1 - r.x1 % side l + side l - 1, r.y1 - r.y1 % side l + side l - 1⟩, true) else (.zero, false)
theorem sq_le {d : Int} (h : -65535 ≤ d ∧ d ≤ 65535) : 0 ≤ d * d ∧ d * d ≤ 4294836225 := by
  refine ⟨by rcases Int.le_total 0 d with h0 | h0; exact Int.mul_nonneg h0 h0; exact Int.mul_nonneg_of_nonpos_of_nonpos h0 h0, ?_⟩
  rcases Int.le_total 0 d with h0 | h0
  · have := Int.mul_le_mul h.2 h.2 h0 (by omega)
    omega
  · have := Int.mul_le_mul (show -d ≤ 65535 by omega) (show -d ≤ 65535 by omega) (show 0 ≤ -d by omega) (by omega)
    rw [Int.neg_mul_neg] at this
    omega
theorem toU64b (z : Int) : convR Try.prog 2 79 (.int .i64 z) = some (.int .u64 (IntKind.u64.wrap z)) := convR_int Ty.u2 Ty.u79
theorem pclamp (n lo hi : Int) : PFn Try.prog 125 [.sc (.int .i64 n), .sc (.int .i64 lo), .sc (.int .i64 hi)] (.sc (.int .i64 (clampZ n lo hi))) := by
  refine AFn.intro (fn := Try.f125) (by kernel_rfl) rfl (by kernel_rfl) (by simp) (AW.ofx [] mixed (by kernel_rfl) ?_)
  simp only [Try.f125, argsF]
  simp [clampZ]
  grind
theorem psquare (a b : Int) (h : -65535 ≤ a - b ∧ a - b ≤ 65535) : PFn Try.prog 124 [.sc (.int .i64 a), .sc (.int .i64 b)] (.sc (.int .u64 ((a - b) * (a - b)))) := by
  have h1 := sq_le h
  have w1 : IntKind.i64.wrap (a - b) = a - b := by rw [wrap_i64] <;> omega
  have w2 : IntKind.i64.wrap ((a - b) * (a - b)) = (a - b) * (a - b) := by rw [wrap_i64] <;> omega
  have w3 : IntKind.u64.wrap ((a - b) * (a - b)) = (a - b) * (a - b) := by rw [wrap_u64] <;> omega
  refine AFn.intro (fn := Try.f124) (by kernel_rfl) rfl (by kernel_rfl) (by simp) (AW.ofx [] mixed (by kernel_rfl) ?_)
  simp only [Try.f124, argsF]
  simp [toU64b, w1, w2, w3]
theorem refGap (n a b : Int) (h1 : 0 ≤ n ∧ n ≤ 65535) (h2 : 0 ≤ a ∧ a ≤ 65535) (h3 : 0 ≤ b ∧ b ≤ 65535) : PFn Try.prog 82 [.sc (.int .i64 n), .sc (.int .i64 a), .sc (.int .i64 b)] (.sc (.int .u64 (gapZ n a b))) := by
  have w1 : IntKind.i64.wrap (a - n) = a - n := by rw [wrap_i64] <;> omega
  have w2 : IntKind.i64.wrap (n - b) = n - b := by rw [wrap_i64] <;> omega
  unfold gapZ
  refine AFn.intro (fn := Try.f82) (by kernel_rfl) rfl (by kernel_rfl) (by simp) (AW.ofx [] mixed (by kernel_rfl) ?_)
  simp only [Try.f82, argsF]
  by_cases c1 : n < a
  · have w3 : IntKind.u64.wrap (a - n) = a - n := by rw [wrap_u64] <;> omega
    simp [toU64, c1, w1, w3]
  · by_cases c2 : b < n
    · have w3 : IntKind.u64.wrap (n - b) = n - b := by rw [wrap_u64] <;> omega
      simp [toU64, c1, c2, w2, w3]
    · simp [c1, c2]
theorem gapZ_range {n a b : Int} (h1 : 0 ≤ n ∧ n ≤ 65535) (h2 : 0 ≤ a ∧ a ≤ 65535) (h3 : 0 ≤ b ∧ b ≤ 65535) : 0 ≤ gapZ n a b ∧ gapZ n a b ≤ 65535 := by
  unfold gapZ
  split
  · omega
  · split <;> omega
theorem fits_rng {p : Pt} (h : fits p = true) : (0 ≤ p.x ∧ p.x ≤ 65535) ∧ (0 ≤ p.y ∧ p.y ≤ 65535) := by simpa [fits, inside] using h
theorem right_rng {r : Re} (h : rightR r = true) : (0 ≤ r.x0 ∧ r.x0 ≤ 65535) ∧ (0 ≤ r.y0 ∧ r.y0 ≤ 65535) ∧ (0 ≤ r.x1 ∧ r.x1 ≤ 65535) ∧ (0 ≤ r.y1 ∧ r.y1 ≤ 65535) ∧ r.x0 ≤ r.x1 ∧ r.y0 ≤ r.y1 := by
  simp [rightR, inside] at h
  omega
theorem distR_range (r : Re) (p : Pt) : 0 ≤ distR r p ∧ distR r p ≤ 8589672450 := by
  unfold distR
  split
  · rename_i h
    simp only [Bool.and_eq_true] at h
    have h1 := right_rng h.1
    have h2 := fits_rng h.2
    have g1 := gapZ_range h2.1 h1.1 h1.2.2.1
    have g2 := gapZ_range h2.2 h1.2.1 h1.2.2.2.1
    have s1 := sq_le (d := gapZ p.x r.x0 r.x1) (by omega)
    have s2 := sq_le (d := gapZ p.y r.y0 r.y1) (by omega)
    omega
  · omega
theorem refDist (r : Re) (p : Pt) : PFn Try.prog 63 [r.v, p.v] (.sc (.int .u64 (distR r p))) := by
  have hR := refRightR r
  have hF := refFits p
  unfold Re.v Re.cs at hR ⊢
  unfold Pt.v Pt.cs at hF ⊢
  refine AFn.intro (fn := Try.f63) (by kernel_rfl) rfl (by kernel_rfl) (by simp) ?_
  simp only [Try.f63, argsF]
  refine AW.seq (AW.ofx [] mixed (by kernel_rfl) ?_)
  simp
  refine AW.seq (AW.ofx [] mixed (by kernel_rfl) ?_)
  simp
  refine callK.pure hR rfl rfl ?_
  cases h1 : rightR r with
  | false =>
    simp [distR, h1]
  | true =>
    simp
    refine callK.pure hF rfl rfl ?_
    cases h2 : fits p with
    | false => simp [distR, h1, h2]
    | true =>
      have r1 := right_rng h1
      have r2 := fits_rng h2
      have g1 := gapZ_range r2.1 r1.1 r1.2.2.1
      have g2 := gapZ_range r2.2 r1.2.1 r1.2.2.2.1
      have G1 := refGap p.x r.x0 r.x1 r2.1 r1.1 r1.2.2.1
      have G2 := refGap p.y r.y0 r.y1 r2.2 r1.2.1 r1.2.2.2.1
      have hd : distR r p = gapZ p.x r.x0 r.x1 * gapZ p.x r.x0 r.x1 + gapZ p.y r.y0 r.y1 * gapZ p.y r.y0 r.y1 := by simp [distR, h1, h2]
      generalize gapZ p.x r.x0 r.x1 = a at *
      generalize gapZ p.y r.y0 r.y1 = b at *
      have s1 := sq_le (d := a) (by omega)
      have s2 := sq_le (d := b) (by omega)
      have w1 : IntKind.u64.wrap (a * a) = a * a := by rw [wrap_u64] <;> omega
      have w2 : IntKind.u64.wrap (b * b) = b * b := by rw [wrap_u64] <;> omega
      have w3 : IntKind.u64.wrap (a * a + b * b) = a * a + b * b := by rw [wrap_u64] <;> omega
      rw [hd]
      simp
      refine AW.seq (AW.ofx [] mixed (by kernel_rfl) ?_)
      simp
      refine callK.pure G1 rfl rfl ?_
      simp
      refine AW.seq (AW.ofx [] mixed (by kernel_rfl) ?_)
      simp
      refine callK.pure G2 rfl rfl ?_
      simp
      refine AW.ofx [] mixed (by kernel_rfl) ?_
      simp [w1, w2, w3]
theorem pnearest (r : Re) (p : Pt) (h1 : rightR r = true) (h2 : fits p = true) : PFn Try.prog 102 [r.v, p.v] (⟨clampZ p.x r.x0 r.x1, clampZ p.y r.y0 r.y1⟩ : Pt).v := by
  have hR := gRight r
  have hF := gFits p
  rw [h1] at hR
  rw [h2] at hF
  unfold Re.v Re.cs at hR ⊢
  unfold Pt.v Pt.cs at hF ⊢
  refine AFn.intro (fn := Try.f102) (by kernel_rfl) rfl (by kernel_rfl) (by simp) ?_
  simp only [Try.f102, argsF]
  refine AW.seq (AW.ofx [(3, 13, [3, 2])] mixed (by kernel_rfl) ?_)
  simp
  refine AW.seq (AW.ofx [(3, 13, [3, 2])] mixed (by kernel_rfl) ?_)
  simp
  refine callK.pure hR rfl rfl ?_
  simp
  refine callK.pure hF rfl rfl ?_
  simp
  refine AW.ofx [(3, 13, [3, 2])] mixed (by kernel_rfl) ?_
  simp
  refine callK.pure (pclamp _ _ _) rfl rfl ?_
  simp
  refine callK.pure (pclamp _ _ _) rfl rfl ?_
  simp [setCells, setBlk]
theorem papart (p q : Pt) (h1 : fits p = true) (h2 : fits q = true) : PFn Try.prog 101 [p.v, q.v] (.sc (.int .u64 ((p.x - q.x) * (p.x - q.x) + (p.y - q.y) * (p.y - q.y)))) := by
  have hP := gFits p
  have hQ := gFits q
  rw [h1] at hP
  rw [h2] at hQ
  have r1 := fits_rng h1
  have r2 := fits_rng h2
  have q1 := psquare p.x q.x (by omega)
  have q2 := psquare p.y q.y (by omega)
  have s1 := sq_le (d := p.x - q.x) (by omega)
  have s2 := sq_le (d := p.y - q.y) (by omega)
  have w3 : IntKind.u64.wrap ((p.x - q.x) * (p.x - q.x) + (p.y - q.y) * (p.y - q.y)) = (p.x - q.x) * (p.x - q.x) + (p.y - q.y) * (p.y - q.y) := by rw [wrap_u64] <;> omega
  unfold Pt.v Pt.cs at hP hQ ⊢
  refine AFn.intro (fn := Try.f101) (by kernel_rfl) rfl (by kernel_rfl) (by simp) ?_
  simp only [Try.f101, argsF]
  refine AW.seq (AW.ofx [(3, 9, [2, 3])] mixed (by kernel_rfl) ?_)
  simp
  refine AW.seq (AW.ofx [(3, 9, [2, 3])] mixed (by kernel_rfl) ?_)
  simp
  refine callK.pure hP rfl rfl ?_
  simp
  refine callK.pure hQ rfl rfl ?_
  simp
  refine AW.ofx [(3, 9, [2, 3])] mixed (by kernel_rfl) ?_
  simp
  refine callK.pure q1 rfl rfl ?_
  simp
  refine callK.pure q2 rfl rfl ?_
  simp [w3]
theorem clamp_gap {n a b : Int} (h : a ≤ b) : (n - clampZ n a b) * (n - clampZ n a b) = gapZ n a b * gapZ n a b := by
  have e : n - clampZ n a b = gapZ n a b ∨ n - clampZ n a b = - gapZ n a b := by
    unfold clampZ gapZ
    split
    · right; omega
    · split
      · left; omega
      · left; omega
  rcases e with e | e
  · rw [e]
  · rw [e, Int.neg_mul_neg]
theorem pdist (r : Re) (p : Pt) : PFn Try.prog 79 [r.v, p.v] (.sc (.int .u64 (distR r p))) := by
  have hR := gRight r
  have hF := gFits p
  have hN := pnearest r p
  have hA := papart p ⟨clampZ p.x r.x0 r.x1, clampZ p.y r.y0 r.y1⟩
  have hcl : rightR r = true → fits p = true → fits ⟨clampZ p.x r.x0 r.x1, clampZ p.y r.y0 r.y1⟩ = true := fun h1 h2 => by
    have r1 := right_rng h1
    have r2 := fits_rng h2
    have k1 : 0 ≤ clampZ p.x r.x0 r.x1 ∧ clampZ p.x r.x0 r.x1 ≤ 65535 := by unfold clampZ; omega
    have k2 : 0 ≤ clampZ p.y r.y0 r.y1 ∧ clampZ p.y r.y0 r.y1 ≤ 65535 := by unfold clampZ; omega
    simp [fits, inside, k1, k2]
  unfold Re.v Re.cs at hR hN ⊢
  unfold Pt.v Pt.cs at hF hN hA ⊢
  refine AFn.intro (fn := Try.f79) (by kernel_rfl) rfl (by kernel_rfl) (by simp) ?_
  simp only [Try.f79, argsF]
  refine AW.seq (AW.ofx [(3, 4, [3, 2])] mixed (by kernel_rfl) ?_)
  simp
  refine AW.seq (AW.ofx [(3, 4, [3, 2])] mixed (by kernel_rfl) ?_)
  simp
  refine callK.pure hR rfl rfl ?_
  cases h1 : rightR r with
  | false =>
    simp [distR, h1]
  | true =>
    simp
    refine callK.pure hF rfl rfl ?_
    cases h2 : fits p with
    | false => simp [distR, h1, h2]
    | true =>
      have r1 := right_rng h1
      have hd : distR r p = (p.x - clampZ p.x r.x0 r.x1) * (p.x - clampZ p.x r.x0 r.x1) + (p.y - clampZ p.y r.y0 r.y1) * (p.y - clampZ p.y r.y0 r.y1) := by
        rw [clamp_gap (by omega), clamp_gap (by omega)]
        simp [distR, h1, h2]
      rw [hd]
      simp
      refine AW.ofx [(3, 4, [3, 2])] mixed (by kernel_rfl) ?_
      simp
      refine callK.pure (hN h1 h2) rfl rfl ?_
      simp
      refine callK.pure (hA h2 (hcl h1 h2)) rfl rfl ?_
      simp
end Go.Proofs.Ytmjnffjacgjfmaa
namespace Go.Proofs.Ytmjnffjacgjfmaa
set_option linter.all false
open Go.RowKit AM
set_option maxRecDepth 10000
attribute [local simp] aw_skip' aw_region' aw_seq' aw_cond' aw_block' aw_loop' aw_exit' aw_label' aw_ret' aops_nil' aops_cons' aop' aMove aAssign aPick aAlloc aBox aBuild slF aBuildSlice aLoad aLoadOwn aLoadS sharesAt shares sharedV aStore aStoreOwn isOwn delR aNilCheck aBin aMakeFunc aFieldAddr aField aIndexOp aIndex partV aIndexAddr aExtract aSliceOp aSlice slV aShrink aCallOp aCall' aInvoke' aLen aLenMap aDelete aMM aUn aConv aIface aAssert aMakeMap aLookup aMapUpdate aRange aNext aEntry entsOf keyB seekK aMakeSlice lookV aApp aAppendB aAppendF aAppend putK layK eval evalV AM.valOf getF putF setF del SV.refers cellsAt rootSV plains shift ldV V.exact V.exactL V.ofValue V.ofPart V.ofCell V.cells V.one Value.oneCell' fitB qSeq qBlock getB afin aret resVs resV resTmps shareF evalS tupV valsS valsV pickV calm calmB lenV useOf feeds shrinks stows looks isT newsV partsV fillV putAt zerosV fitsNil nilB sliceB isEq isNeq awx_skip' awx_region' awx_seq' awx_cond' awx_block' awx_loop' awx_exit' awx_label' awx_ret' xops_nil' xops_cons' xop' xload xcall' addO delO inO putD memB Mix.effB Mix.laysB keysF badK subW weakV zeroRow yops_nil' yops_cons' yop' yload yindex yfield ylen oldO dropO takeO oldL exactB V.fixed V.fixedL
attribute [local simp] awz_skip' awz_region' awz_seq' awz_cond' awz_block' awz_loop' awz_exit' awz_label' awz_ret' zops_nil' zops_cons' zop' zload zloadOwn zcall' zlenK z0 new0 remF old0 dltB

theorem sub_mod {x s : Int} (h : 0 < s) : x - x % s = s * (x / s) := by
  have := Int.emod_add_mul_ediv x s
  omega
theorem side_rng {l : Int} (h0 : 0 ≤ l) (h : l ≤ 16) : 0 < side l ∧ side l ≤ 65536 := ⟨two_pos _, two_le (by omega)⟩
def farR (s : Sh) (p : Pt) (l : Int) : Int := distR (snapR s.box l).1 p
end Go.Proofs.Ytmjnffjacgjfmaa
namespace Go.Proofs.Ytmjnffjacgjfmaa
set_option linter.all false
open Go.RowKit AM
set_option maxRecDepth 10000
attribute [local simp] aw_skip' aw_region' aw_seq' aw_cond' aw_block' aw_loop' aw_exit' aw_label' aw_ret' aops_nil' aops_cons' aop' aMove aAssign aPick aAlloc aBox aBuild slF aBuildSlice aLoad aLoadOwn aLoadS sharesAt shares sharedV aStore aStoreOwn isOwn delR aNilCheck aBin aMakeFunc aFieldAddr aField aIndexOp aIndex partV aIndexAddr aExtract aSliceOp aSlice slV aShrink aCallOp aCall' aInvoke' aLen aLenMap aDelete aMM aUn aConv aIface aAssert aMakeMap aLookup aMapUpdate aRange aNext aEntry entsOf keyB seekK aMakeSlice lookV aApp aAppendB aAppendF aAppend putK layK eval evalV AM.valOf getF putF setF del SV.refers cellsAt rootSV plains shift ldV V.exact V.exactL V.ofValue V.ofPart V.ofCell V.cells V.one Value.oneCell' fitB qSeq qBlock getB afin aret resVs resV resTmps shareF evalS tupV valsS valsV pickV calm calmB lenV useOf feeds shrinks stows looks isT newsV partsV fillV putAt zerosV fitsNil nilB sliceB isEq isNeq awx_skip' awx_region' awx_seq' awx_cond' awx_block' awx_loop' awx_exit' awx_label' awx_ret' xops_nil' xops_cons' xop' xload xcall' addO delO inO putD memB Mix.effB Mix.laysB keysF badK subW weakV zeroRow yops_nil' yops_cons' yop' yload yindex yfield ylen oldO dropO takeO oldL exactB V.fixed V.fixedL
attribute [local simp] awz_skip' awz_region' awz_seq' awz_cond' awz_block' awz_loop' awz_exit' awz_label' awz_ret' zops_nil' zops_cons' zop' zload zloadOwn zcall' zlenK z0 new0 remF old0 dltB

/-- An entry. -/
def entC (y : Ent) : List V := [.sc (.int .u64 y.k), .sc (.int .u64 y.t), .sc (.int .i64 y.i)]
def entV (y : Ent) : V := .agg (entC y)
theorem entV_eq (y : Ent) : entV y = .agg [.sc (.int .u64 y.k), .sc (.int .u64 y.t), .sc (.int .i64 y.i)] := rfl
theorem entC_eq (y : Ent) : entC y = [.sc (.int .u64 y.k), .sc (.int .u64 y.t), .sc (.int .i64 y.i)] := rfl
def ownEn (es : List Ent) : SV := .own true 81 es.length 3 (es.flatMap entC)
def qB (es : List Ent) : Bk := .cells [ownEn es]
theorem rowEn {es : List Ent} {k : Nat} (hk : k < es.length) : ((es.flatMap entC).drop (k * 3)).take 3 = entC es[k] := flat_get (enc := entC) (fun _ => rfl) hk
theorem lenEn (es : List Ent) : (es.flatMap entC).length = es.length * 3 := flat_len' (enc := entC) (sz := 3) (fun _ => rfl) es
theorem setEn : ∀ {es : List Ent} {k : Nat} (y : Ent), k < es.length → (es.set k y).flatMap entC = (es.flatMap entC).take (k * 3) ++ (entC y ++ (es.flatMap entC).drop (k * 3 + 3))
  | x :: es, 0, y, _ => by simp [entC]
  | x :: es, k + 1, y, h => by
    have ih := setEn (es := es) (k := k) y (by simpa using h)
    have e : (k + 1) * 3 = k * 3 + 3 := by omega
    rw [List.set_cons_succ, List.flatMap_cons, List.flatMap_cons, ih, e]
    simp [entC_eq x]
theorem takeEn : ∀ {es : List Ent} (k : Nat), (es.take k).flatMap entC = (es.flatMap entC).take (k * 3)
  | [], k => by simp
  | x :: es, 0 => by simp
  | x :: es, k + 1 => by
    have e : (k + 1) * 3 = k * 3 + 3 := by omega
    rw [List.take_succ_cons, List.flatMap_cons, List.flatMap_cons, takeEn (es := es) k, e]
    simp [entC_eq x]
theorem zless (x y : Ent) : PFn Try.prog 155 [entV x, entV y] (.sc (.bool (x.lt y))) := by
  rw [entV_eq, entV_eq]
  unfold Ent.lt
  refine AFn.intro (fn := Try.f155) (by kernel_rfl) rfl (by kernel_rfl) (by simp) ?_
  simp only [Try.f155, argsF]
  refine AW.seq (AW.ofx [] mixed (by kernel_rfl) ?_)
  simp
  refine AW.seq (AW.ofx [] mixed (by kernel_rfl) ?_)
  by_cases hk : x.k = y.k
  · simp [hk]
    refine AW.seq (AW.ofx [] mixed (by kernel_rfl) ?_)
    by_cases ht : x.t = y.t
    · simp [ht]
      refine AW.ofx [] mixed (by kernel_rfl) ?_
      simp
    · have ht' : (x.t != y.t) = true := by simpa using ht
      simp [ht, ht']
  · have hk' : (x.k != y.k) = true := by simpa using hk
    simp [hk, hk']
theorem mLenI (a : Addr) (w : World) : (method (Try.prog.types.size + Made.depth) 113 (.pointer (some a)) "Len").run Try.prog w = .ok (150, .pointer (some a)) w := by kernel_rfl
theorem mLessI (a : Addr) (w : World) : (method (Try.prog.types.size + Made.depth) 113 (.pointer (some a)) "Less").run Try.prog w = .ok (151, .pointer (some a)) w := by kernel_rfl
theorem mSwapI (a : Addr) (w : World) : (method (Try.prog.types.size + Made.depth) 113 (.pointer (some a)) "Swap").run Try.prog w = .ok (154, .pointer (some a)) w := by kernel_rfl
theorem mPushI (a : Addr) (w : World) : (method (Try.prog.types.size + Made.depth) 113 (.pointer (some a)) "Push").run Try.prog w = .ok (153, .pointer (some a)) w := by kernel_rfl
theorem mPopI (a : Addr) (w : World) : (method (Try.prog.types.size + Made.depth) 113 (.pointer (some a)) "Pop").run Try.prog w = .ok (152, .pointer (some a)) w := by kernel_rfl
theorem mLenM : MethodIs Try.prog 113 "Len" 150 := mLenI
theorem mLessM : MethodIs Try.prog 113 "Less" 151 := mLessI
theorem mSwapM : MethodIs Try.prog 113 "Swap" 154 := mSwapI
theorem mPushM : MethodIs Try.prog 113 "Push" 153 := mPushI
theorem mPopM : MethodIs Try.prog 113 "Pop" 152 := mPopI
section
variable {H : List Bk} {q : Nat} {es : List Ent}
theorem zlen (hq : H[q]? = some (qB es)) : AFn Try.prog 150 [.ptr q 0] H fun y H' => y = .sc (.int .i64 es.length) ∧ H' = H := by
  unfold qB ownEn at hq
  refine AFn.intro (fn := Try.f150) (by kernel_rfl) rfl (by kernel_rfl) (by simp) (AW.ofx [] mixed (by kernel_rfl) ?_)
  simp only [Try.f150, argsF]
  simp [hq]
theorem ztless (hq : H[q]? = some (qB es)) {i j : Nat} (hi : i < es.length) (hj : j < es.length) : AFn Try.prog 151 [.ptr q 0, .sc (.int .i64 i), .sc (.int .i64 j)] H fun y H' => y = .sc (.bool (es[i].lt es[j])) ∧ H' = H := by
  have h1 := rowEn hi
  have h2 := rowEn hj
  have hl := lenEn es
  have hL := zless es[i] es[j]
  rw [entC_eq] at h1 h2
  rw [entV_eq, entV_eq] at hL
  have b1 : 3 ≤ (es.flatMap entC).length - i * 3 := by omega
  have b2 : 3 ≤ (es.flatMap entC).length - j * 3 := by omega
  unfold qB ownEn at hq
  generalize es.flatMap entC = fe at *
  refine AFn.intro (fn := Try.f151) (by kernel_rfl) rfl (by kernel_rfl) (by simp) ?_
  simp only [Try.f151, argsF]
  refine AW.seq (AW.ofx [] mixed (by kernel_rfl) ?_)
  simp
  refine AW.ofx [] mixed (by kernel_rfl) ?_
  simp [hq, hi, hj, h1, h2, b1, b2]
  refine callK.pure hL rfl rfl ?_
  simp
theorem zswap (hq : H[q]? = some (qB es)) {i j : Nat} (hi : i < es.length) (hj : j < es.length) : AFn Try.prog 154 [.ptr q 0, .sc (.int .i64 i), .sc (.int .i64 j)] H fun y H' => y = .tup [] ∧ H' = H.set q (qB (swapL es i j)) := by
  have h1 := rowEn hi
  have h2 := rowEn hj
  have hl := lenEn es
  have s1 := setEn (es := es) es[j] hi
  have s2 := setEn (es := es.set i es[j]) (k := j) es[i] (by simpa using hj)
  rw [s1] at s2
  rw [entC_eq] at h1 h2
  rw [entC_eq, entC_eq] at s2
  have b1 : 3 ≤ (es.flatMap entC).length - i * 3 := by omega
  have b2 : 3 ≤ (es.flatMap entC).length - j * 3 := by omega
  have b3 : i * 3 + 3 ≤ (es.flatMap entC).length := by omega
  have b4 : j * 3 + 3 ≤ (es.flatMap entC).length := by omega
  unfold qB ownEn at hq ⊢
  rw [swapL_eq hi hj, s2]
  simp only [List.length_set]
  generalize es.flatMap entC = fe at *
  refine AFn.intro (fn := Try.f154) (by kernel_rfl) rfl (by kernel_rfl) (by simp) ?_
  simp only [Try.f154, argsF]
  refine AW.ofx [] mixed (by kernel_rfl) ?_
  simp [hq, hi, hj, h1, h2, b1, b2, b3, b4]
  have hql := (List.getElem?_eq_some_iff.1 hq).1
  rw [setBlk_eq' hq]
  simp only [List.set_cons_zero, List.getElem?_set_self hql, List.getElem?_cons_zero]
  rw [setBlk_eq' (List.getElem?_set_self hql)]
  simp
  omega
theorem ztpush (hq : H[q]? = some (qB es)) (hn : es.length ≤ 1000000) (y : Ent) : AFn Try.prog 153 [.ptr q 0, .iface 81 (entV y)] H fun y' H' => y' = .tup [] ∧ KpA (fun x => x = q) H H' ∧ H'[q]? = some (qB (es ++ [y])) := by
  unfold qB ownEn at hq
  rw [entV_eq]
  have hap : es.flatMap entC ++ [.sc (.int .u64 y.k), .sc (.int .u64 y.t), .sc (.int .i64 y.i)] = (es ++ [y]).flatMap entC := by simp [entC_eq y]
  unfold qB ownEn
  rw [← hap]
  generalize es.flatMap entC = fe at *
  have hqL := fun L => hget (L := L) hq
  refine AFn.intro (fn := Try.f153) (by kernel_rfl) rfl (by kernel_rfl) (by simp) ?_
  simp only [Try.f153, argsF]
  refine AW.seq (AW.ofx [(2, 8, [0, 4])] mixed (by kernel_rfl) ?_)
  simp [setCells, setBlk]
  refine AW.seq (AW.ofx [(2, 8, [0, 4])] mixed (by kernel_rfl) ?_)
  simp
  have hq2 := hqL [.cells [.v (.sc (.int .u64 y.k)), .v (.sc (.int .u64 y.t)), .v (.sc (.int .i64 y.i))]]
  have hy2 : (H ++ [Bk.cells [.v (.sc (.int .u64 y.k)), .v (.sc (.int .u64 y.t)), .v (.sc (.int .i64 y.i))]])[H.length]? = some (Bk.cells [.v (.sc (.int .u64 y.k)), .v (.sc (.int .u64 y.t)), .v (.sc (.int .i64 y.i))]) := by simp
  have kp : KpA (fun x => x = q) H (H ++ [Bk.cells [.v (.sc (.int .u64 y.k)), .v (.sc (.int .u64 y.t)), .v (.sc (.int .i64 y.i))]]) := KpA.refl.app
  have hne : q ≠ H.length := by
    have := (List.getElem?_eq_some_iff.1 hq).1
    omega
  generalize H ++ [Bk.cells [.v (.sc (.int .u64 y.k)), .v (.sc (.int .u64 y.t)), .v (.sc (.int .i64 y.i))]] = H2 at *
  have hql := (List.getElem?_eq_some_iff.1 hq2).1
  have f3 : ∀ K, (H2.set q K)[q]? = some K := fun K => List.getElem?_set_self hql
  have f1 : ∀ x, setBlk H2 q 0 x = H2.set q (.cells [x]) := fun x => setBlk_eq' hq2
  have f2 : ∀ x z, setBlk (H2.set q (.cells [x])) q 0 z = H2.set q (.cells [z]) := fun x z => by
    rw [setBlk_eq' (f3 _), List.set_set]
    rfl
  have f4 : ∀ K, (H2.set q K)[H.length]? = some (Bk.cells [.v (.sc (.int .u64 y.k)), .v (.sc (.int .u64 y.t)), .v (.sc (.int .i64 y.i))]) := fun K => by rw [List.getElem?_set_ne hne]; exact hy2
  refine AW.ofx [] mixed (by kernel_rfl) ?_
  simp [hq2, f1, f2, f3, f4]
  exact ⟨by omega, kp.set rfl⟩
theorem ztpop (hq : H[q]? = some (qB es)) (hn : 0 < es.length) (hm : es.length ≤ 2000000) : AFn Try.prog 152 [.ptr q 0] H fun y' H' => y' = .iface 81 (entV (at_ es (es.length - 1))) ∧ KpA (fun x => x = q) H H' ∧ H'[q]? = some (qB es.dropLast) := by
  obtain ⟨n, hn'⟩ : ∃ n, es.length = n + 1 := ⟨es.length - 1, by omega⟩
  have hk : n < es.length := by omega
  have h1 := rowEn hk
  have hl := lenEn es
  have w1 : IntKind.i64.wrap ((es.length : Int) - 1) = (n : Nat) := by rw [wrap_i64] <;> omega
  have hdl : es.dropLast.flatMap entC = (es.flatMap entC).take (n * 3) := by
    rw [List.dropLast_eq_take, hn', Nat.add_sub_cancel]
    exact takeEn n
  have hb : 3 ≤ (es.flatMap entC).length - n * 3 := by omega
  have hlt : (n : Int) < (n : Int) + 1 := by omega
  have hat : at_ es (es.length - 1) = es[n] := by rw [at_eq (by omega)]; simp [hn']
  rw [hat, entV_eq]
  unfold qB ownEn at hq ⊢
  rw [hdl, List.length_dropLast]
  rw [entC_eq] at h1
  generalize es.flatMap entC = fe at *
  have hqL := fun L => hget (L := L) hq
  refine AFn.intro (fn := Try.f152) (by kernel_rfl) rfl (by kernel_rfl) (by simp) ?_
  simp only [Try.f152, argsF]
  refine AW.seq (AW.ofx [] mixed (by kernel_rfl) ?_)
  simp
  refine AW.seq (AW.ofx [] mixed (by kernel_rfl) ?_)
  simp [hq, w1]
  refine AW.seq (AW.ofx [] mixed (by kernel_rfl) ?_)
  simp [hq, hk, hn', h1, hb, hlt, setCells, setBlk]
  have hq2 := hqL [.cells [.v (.sc (.int .u64 es[n].k)), .v (.sc (.int .u64 es[n].t)), .v (.sc (.int .i64 es[n].i))]]
  have hy2 : (H ++ [Bk.cells [.v (.sc (.int .u64 es[n].k)), .v (.sc (.int .u64 es[n].t)), .v (.sc (.int .i64 es[n].i))]])[H.length]? = some (Bk.cells [.v (.sc (.int .u64 es[n].k)), .v (.sc (.int .u64 es[n].t)), .v (.sc (.int .i64 es[n].i))]) := by simp
  have kp : KpA (fun x => x = q) H (H ++ [Bk.cells [.v (.sc (.int .u64 es[n].k)), .v (.sc (.int .u64 es[n].t)), .v (.sc (.int .i64 es[n].i))]]) := KpA.refl.app
  have hne : q ≠ H.length := by
    have := (List.getElem?_eq_some_iff.1 hq).1
    omega
  generalize H ++ [Bk.cells [.v (.sc (.int .u64 es[n].k)), .v (.sc (.int .u64 es[n].t)), .v (.sc (.int .i64 es[n].i))]] = H2 at *
  have hql := (List.getElem?_eq_some_iff.1 hq2).1
  have f3 : ∀ K, (H2.set q K)[q]? = some K := fun K => List.getElem?_set_self hql
  have f1 : ∀ x, setBlk H2 q 0 x = H2.set q (.cells [x]) := fun x => setBlk_eq' hq2
  have f2 : ∀ x z, setBlk (H2.set q (.cells [x])) q 0 z = H2.set q (.cells [z]) := fun x z => by
    rw [setBlk_eq' (f3 _), List.set_set]
    rfl
  have f4 : ∀ K, (H2.set q K)[H.length]? = some (Bk.cells [.v (.sc (.int .u64 es[n].k)), .v (.sc (.int .u64 es[n].t)), .v (.sc (.int .i64 es[n].i))]) := fun K => by rw [List.getElem?_set_ne hne]; exact hy2
  refine AW.seq (AW.ofx [] mixed (by kernel_rfl) ?_)
  simp [hq2, hn', hlt, f1, f2, f3, f4]
  refine ⟨by omega, AW.ofx [] mixed (by kernel_rfl) ?_⟩
  simp [f3, f4]
  exact kp.set rfl
end
end Go.Proofs.Ytmjnffjacgjfmaa
namespace Go.Proofs.Ytmjnffjacgjfmaa
set_option linter.all false
open Go.RowKit AM
set_option maxRecDepth 10000
attribute [local simp] aw_skip' aw_region' aw_seq' aw_cond' aw_block' aw_loop' aw_exit' aw_label' aw_ret' aops_nil' aops_cons' aop' aMove aAssign aPick aAlloc aBox aBuild slF aBuildSlice aLoad aLoadOwn aLoadS sharesAt shares sharedV aStore aStoreOwn isOwn delR aNilCheck aBin aMakeFunc aFieldAddr aField aIndexOp aIndex partV aIndexAddr aExtract aSliceOp aSlice slV aShrink aCallOp aCall' aInvoke' aLen aLenMap aDelete aMM aUn aConv aIface aAssert aMakeMap aLookup aMapUpdate aRange aNext aEntry entsOf keyB seekK aMakeSlice lookV aApp aAppendB aAppendF aAppend putK layK eval evalV AM.valOf getF putF setF del SV.refers cellsAt rootSV plains shift ldV V.exact V.exactL V.ofValue V.ofPart V.ofCell V.cells V.one Value.oneCell' fitB qSeq qBlock getB afin aret resVs resV resTmps shareF evalS tupV valsS valsV pickV calm calmB lenV useOf feeds shrinks stows looks isT newsV partsV fillV putAt zerosV fitsNil nilB sliceB isEq isNeq awx_skip' awx_region' awx_seq' awx_cond' awx_block' awx_loop' awx_exit' awx_label' awx_ret' xops_nil' xops_cons' xop' xload xcall' addO delO inO putD memB Mix.effB Mix.laysB keysF badK subW weakV zeroRow yops_nil' yops_cons' yop' yload yindex yfield ylen oldO dropO takeO oldL exactB V.fixed V.fixedL
attribute [local simp] awz_skip' awz_region' awz_seq' awz_cond' awz_block' awz_loop' awz_exit' awz_label' awz_ret' zops_nil' zops_cons' zop' zload zloadOwn zcall' zlenK z0 new0 remF old0 dltB
section
variable {H : List Bk} {q : Nat} {es : List Ent}
/-- The tree of a queue, as the library's heap sees it. -/
def itV (q : Nat) : V := .iface 113 (.ptr q 0)
def UpI (H : List Bk) (q : Nat) (es : List Ent) (j : Nat) (n : Nat) (F : Fr) (H1 : List Bk) : Prop :=
  ∃ (f : Nat) (l : List Ent), n < l.length ∧ n ≤ f ∧ l.length = es.length ∧ upF f l n = upF j es j ∧ H1[q]? = some (qB l) ∧ KpA (fun x => x = q) H H1 ∧ F = [(0, .v (itV q)), (1, .v (.sc (.int .i64 n)))]
theorem zup (hq : H[q]? = some (qB es)) {j : Nat} (hj : j < es.length) (hn : es.length ≤ 2000000) : AFn Try.prog 99 [itV q, .sc (.int .i64 j)] H fun y H' => y = .tup [] ∧ KpA (fun x => x = q) H H' ∧ H'[q]? = some (qB (upF j es j)) := by
  unfold itV
  refine AFn.intro (fn := Try.f99) (by kernel_rfl) rfl (by kernel_rfl) (by simp) ?_
  simp only [Try.f99, argsF]
  refine AW.block (AW.loopW (UpI H q es j) ⟨j, _, ?_, j, es, hj, Nat.le_refl _, rfl, rfl, hq, KpA.refl, rfl⟩ ?_)
  · simp [subW, weakV, getF, itV]
  rintro n F H1 ⟨f, l, hnl, hnf, hll, hup, hq1, k1, rfl⟩
  unfold itV
  by_cases h0 : n = 0
  · subst h0
    have hl : l = upF j es j := by
      rw [← hup]
      cases f with
      | zero => rfl
      | succ f => rw [upF, if_neg (by simp)]
    have e0 : IntKind.i64.wrap (-1) = -1 := by rw [wrap_i64] <;> omega
    have e1 : IntKind.i64.wrap 0 = 0 := by rw [wrap_i64] <;> omega
    have e2 : Int.tdiv (-1) 2 = 0 := by decide
    refine AW.block (AW.seq (AW.ofx [] mixed (by kernel_rfl) ?_))
    simp [binR_quo, e0, e1, e2]
    refine AW.seq (AW.seq (AW.ofx [] mixed (by kernel_rfl) ?_))
    simp
    refine AW.ofx [] mixed (by kernel_rfl) ?_
    simp
    exact ⟨k1, by rw [← hl]; exact hq1⟩
  · obtain ⟨f, rfl⟩ : ∃ f', f = f' + 1 := ⟨f - 1, by omega⟩
    have w1 : IntKind.i64.wrap ((n : Int) - 1) = ((n - 1 : Nat) : Int) := by rw [wrap_i64] <;> omega
    obtain ⟨p, hp⟩ : ∃ p, p = (n - 1) / 2 := ⟨_, rfl⟩
    have w2 : IntKind.i64.wrap (((n - 1 : Nat) : Int) / 2) = (p : Int) := by
      rw [wrap_i64] <;> omega
    have hne : (((p : Nat) : Int) == (n : Int)) = false := by simp; omega
    have hpl : p < l.length := by omega
    have hL := ztless hq1 hnl hpl
    have hS := zswap hq1 hpl hnl
    have a1 := at_eq hnl
    have a2 := at_eq hpl
    rw [← a1, ← a2] at hL
    refine AW.block (AW.seq (AW.ofx [] mixed (by kernel_rfl) ?_))
    simp [binR_quo, w1, w2]
    refine AW.seq (AW.seq (AW.ofx [] mixed (by kernel_rfl) ?_))
    simp [hne, mLessM.eq, mLessM]
    refine callK.of hL ?_
    rintro y H2 ⟨rfl, rfl⟩
    cases hlt : (at_ l n).lt (at_ l p) with
    | false =>
      have hl : l = upF j es j := by
        rw [← hup, upF, if_neg (by rw [← hp]; simp [hlt])]
      simp
      refine AW.ofx [] mixed (by kernel_rfl) ?_
      simp
      exact ⟨k1, by rw [← hl]; exact hq1⟩
    | true =>
      simp
      refine AW.ofx [] mixed (by kernel_rfl) ?_
      simp
      refine AW.seq (AW.ofx [] mixed (by kernel_rfl) ?_)
      simp [mSwapM.eq, mSwapM]
      refine callK.of hS ?_
      rintro y H3 ⟨rfl, rfl⟩
      simp
      refine AW.ofx [] mixed (by kernel_rfl) ?_
      simp
      refine ⟨p, by omega, _, ?_, f, swapL l p n, by rw [swapL_len]; omega, by omega, by rw [swapL_len]; exact hll, ?_, ?_, k1.set rfl, rfl⟩
      · simp [subW, weakV, getF, itV]
      · rw [← hup, upF, if_pos ⟨h0, by rw [← hp]; exact hlt⟩, ← hp]
      · exact List.getElem?_set_self (List.getElem?_eq_some_iff.1 hq1).1
def DnI (H : List Bk) (q : Nat) (es : List Ent) (n : Nat) (z : Nat) (F : Fr) (H1 : List Bk) : Prop :=
  ∃ (i f : Nat) (l : List Ent), z = n - i ∧ i ≤ n ∧ n ≤ f + i ∧ l.length = es.length ∧ downF f l i n = downF n es 0 n ∧ H1[q]? = some (qB l) ∧ KpA (fun x => x = q) H H1 ∧ F = [(0, .v (itV q)), (1, .v (.sc (.int .i64 0))), (2, .v (.sc (.int .i64 n))), (7, .v (.sc (.int .i64 i)))]
theorem zdown (hq : H[q]? = some (qB es)) {n : Nat} (hn : n < es.length) (hm : es.length ≤ 2000000) : AFn Try.prog 80 [itV q, .sc (.int .i64 0), .sc (.int .i64 n)] H fun y H' => KpA (fun x => x = q) H H' ∧ H'[q]? = some (qB (downF n es 0 n)) := by
  unfold itV
  refine AFn.intro (fn := Try.f80) (by kernel_rfl) rfl (by kernel_rfl) (by simp) ?_
  simp only [Try.f80, argsF]
  refine AW.seq (AW.ofx [] mixed (by kernel_rfl) ?_)
  simp
  refine AW.seq (AW.ofx [] mixed (by kernel_rfl) ?_)
  simp
  refine AW.seq (AW.block (AW.loopW (DnI H q es n) ⟨n, _, ?_, 0, n, es, rfl, Nat.zero_le _, Nat.le_refl _, rfl, rfl, hq, KpA.refl, rfl⟩ ?_))
  · simp [subW, weakV, getF, itV]
  rintro z F H1 ⟨i, f, l, rfl, hi, hf, hll, hdn, hq1, k1, rfl⟩
  unfold itV
  have w1 : IntKind.i64.wrap (2 * (i : Int)) = 2 * (i : Int) := by rw [wrap_i64] <;> omega
  have w2 : IntKind.i64.wrap (2 * (i : Int) + 1) = ((2 * i + 1 : Nat) : Int) := by rw [wrap_i64] <;> omega
  obtain ⟨j1, hj1⟩ : ∃ j1, j1 = 2 * i + 1 := ⟨_, rfl⟩
  rw [← hj1] at w2
  have w3 : IntKind.i64.wrap ((j1 : Int) + 1) = ((j1 + 1 : Nat) : Int) := by rw [wrap_i64] <;> omega
  have hnn : ¬ (j1 : Int) < 0 := by omega
  refine AW.block (AW.seq (AW.ofx [] mixed (by kernel_rfl) ?_))
  simp [w1, w2]
  by_cases hend : n ≤ j1
  · have hend' : (n : Int) ≤ j1 := by omega
    have hl : l = downF n es 0 n := by
      rw [← hdn]
      cases f with
      | zero => rfl
      | succ f => rw [downF, if_pos (by omega)]
    refine AW.seq (AW.seq (AW.ofx [] mixed (by kernel_rfl) ?_))
    simp [hend']
    refine AW.ofx [] mixed (by kernel_rfl) ?_
    simp
    refine AW.ofx [] mixed (by kernel_rfl) ?_
    simp
    exact ⟨k1, by rw [← hl]; exact hq1⟩
  · have hend' : ¬ (n : Int) ≤ j1 := by omega
    obtain ⟨f, rfl⟩ : ∃ f', f = f' + 1 := ⟨f - 1, by omega⟩
    have hj1l : j1 < l.length := by omega
    refine AW.seq (AW.seq (AW.ofx [] mixed (by kernel_rfl) ?_))
    simp [hend', hnn]
    refine AW.ofx [] mixed (by kernel_rfl) ?_
    simp
    refine AW.seq (AW.ofx [] mixed (by kernel_rfl) ?_)
    simp
    obtain ⟨jd, hjd⟩ : ∃ jd, jd = (if 2 * i + 2 < n ∧ (at_ l (2 * i + 2)).lt (at_ l (2 * i + 1)) = true then 2 * i + 2 else 2 * i + 1) := ⟨_, rfl⟩
    have hup : downF (f + 1) l i n = if (at_ l jd).lt (at_ l i) = true then downF f (swapL l i jd) jd n else l := by
      rw [downF, if_neg (by omega), ← hjd]
    refine AW.mid (fun F H' => H' = H1 ∧ F = [(0, .v (itV q)), (1, .v (.sc (.int .i64 0))), (2, .v (.sc (.int .i64 n))), (7, .v (.sc (.int .i64 i))), (9, .v (.sc (.int .i64 jd)))]) (AW.seq (AW.ofx [] mixed (by kernel_rfl) ?_)) ?_
    · simp [w3]
      by_cases h2 : j1 + 1 < n
      · have h2' : ((j1 + 1 : Nat) : Int) < n := by omega
        have hL := ztless hq1 (show j1 + 1 < l.length by omega) hj1l
        have a1 := at_eq (l := l) (i := j1 + 1) (by omega)
        have a2 := at_eq hj1l
        rw [← a1, ← a2] at hL
        simp only [Int.natCast_add, Int.natCast_one] at hL h2'
        refine AW.seq (AW.ofx [] mixed (by kernel_rfl) ?_)
        simp [h2', mLessM.eq, mLessM]
        refine callK.of hL ?_
        rintro y H2 ⟨rfl, rfl⟩
        cases hlt : (at_ l (j1 + 1)).lt (at_ l j1) with
        | false =>
          have : jd = j1 := by
            rw [hjd, if_neg, hj1]
            rw [hj1] at hlt
            simp [hlt]
          simp
          refine AW.ofx [] mixed (by kernel_rfl) ?_
          simp
          simp [subW, weakV, getF, itV, this]
        | true =>
          have : jd = j1 + 1 := by
            rw [hjd, if_pos, hj1]
            rw [hj1] at hlt
            exact ⟨by omega, hlt⟩
          simp
          refine AW.ofx [] mixed (by kernel_rfl) ?_
          simp
          simp [subW, weakV, getF, itV, this]
      · have h2' : ¬ ((j1 + 1 : Nat) : Int) < n := by omega
        simp only [Int.natCast_add, Int.natCast_one] at h2'
        have : jd = j1 := by
          rw [hjd, if_neg (by omega), hj1]
        refine AW.seq (AW.ofx [] mixed (by kernel_rfl) ?_)
        simp [h2']
        refine AW.ofx [] mixed (by kernel_rfl) ?_
        simp
        simp [subW, weakV, getF, itV, this]
    · rintro F H2 ⟨rfl, rfl⟩
      have hjr : i < jd ∧ jd < n := by
        rw [hjd]
        split <;> omega
      have hjl : jd < l.length := by omega
      have hil : i < l.length := by omega
      have hL := ztless hq1 hjl hil
      have hS := zswap hq1 hil hjl
      have a1 := at_eq hjl
      have a2 := at_eq hil
      rw [← a1, ← a2] at hL
      unfold itV
      refine AW.seq (AW.seq (AW.ofx [] mixed (by kernel_rfl) ?_))
      simp [mLessM.eq, mLessM]
      refine callK.of hL ?_
      rintro y H3 ⟨rfl, rfl⟩
      rw [hdn] at hup
      cases hlt : (at_ l jd).lt (at_ l i) with
      | false =>
        rw [hlt] at hup
        simp at hup
        simp
        refine AW.ofx [] mixed (by kernel_rfl) ?_
        simp
        refine AW.ofx [] mixed (by kernel_rfl) ?_
        simp
        exact ⟨k1, by rw [hup]; exact hq1⟩
      | true =>
        rw [hlt] at hup
        simp at hup
        simp
        refine AW.ofx [] mixed (by kernel_rfl) ?_
        simp
        refine AW.seq (AW.ofx [] mixed (by kernel_rfl) ?_)
        simp [mSwapM.eq, mSwapM]
        refine callK.of hS ?_
        rintro y H4 ⟨rfl, rfl⟩
        simp
        refine AW.ofx [] mixed (by kernel_rfl) ?_
        simp
        refine ⟨n - jd, by omega, _, ?_, jd, f, swapL l i jd, rfl, by omega, by omega, by rw [swapL_len]; exact hll, hup.symm, List.getElem?_set_self (List.getElem?_eq_some_iff.1 hq1).1, k1.set rfl, rfl⟩
        simp [subW, weakV, getF, itV]
theorem zhpush (hq : H[q]? = some (qB es)) (hn : es.length ≤ 1000000) (y : Ent) : AFn Try.prog 77 [itV q, .iface 81 (entV y)] H fun z H' => KpA (fun x => x = q) H H' ∧ H'[q]? = some (qB (upF es.length (es ++ [y]) es.length)) := by
  have hP := ztpush hq hn y
  rw [entV_eq] at hP ⊢
  unfold itV
  refine AFn.intro (fn := Try.f77) (by kernel_rfl) rfl (by kernel_rfl) (by simp) ?_
  simp only [Try.f77, argsF]
  refine AW.seq (AW.ofx [] mixed (by kernel_rfl) ?_)
  simp [mPushM.eq, mPushM]
  refine callK.of hP ?_
  rintro z H1 ⟨rfl, k1, hq1⟩
  simp
  have hL := zlen hq1
  have hU := zup hq1 (j := es.length) (by simp) (by simp; omega)
  unfold itV at hU
  have w1 : IntKind.i64.wrap (es.length : Int) = es.length := by rw [wrap_i64] <;> omega
  refine AW.ofx [] mixed (by kernel_rfl) ?_
  simp [mLenM.eq, mLenM]
  refine callK.of hL ?_
  rintro z H2 ⟨rfl, rfl⟩
  simp [w1]
  refine callK.of hU ?_
  rintro z H3 ⟨rfl, k3, hq3⟩
  simp
  exact ⟨k1.trans k3, hq3⟩
theorem zhpop (hq : H[q]? = some (qB es)) (h0 : 0 < es.length) (hn : es.length ≤ 2000000) : AFn Try.prog 60 [itV q] H fun z H' => z = .iface 81 (entV (at_ (downF (es.length - 1) (swapL es 0 (es.length - 1)) 0 (es.length - 1)) (es.length - 1))) ∧ KpA (fun x => x = q) H H' ∧ H'[q]? = some (qB (downF (es.length - 1) (swapL es 0 (es.length - 1)) 0 (es.length - 1)).dropLast) := by
  obtain ⟨n, hn'⟩ : ∃ n, es.length = n + 1 := ⟨es.length - 1, by omega⟩
  have w1 : IntKind.i64.wrap ((es.length : Int) - 1) = (n : Nat) := by rw [wrap_i64] <;> omega
  have hL := zlen hq
  have hS := zswap hq (i := 0) (j := n) (by omega) (by omega)
  rw [hn', Nat.add_sub_cancel]
  have hql := (List.getElem?_eq_some_iff.1 hq).1
  have hq1 : (H.set q (qB (swapL es 0 n)))[q]? = some (qB (swapL es 0 n)) := List.getElem?_set_self hql
  have hsl := swapL_len es 0 n
  have hD := zdown hq1 (n := n) (by omega) (by omega)
  unfold itV at hD ⊢
  simp only [Int.natCast_zero] at hS
  refine AFn.intro (fn := Try.f60) (by kernel_rfl) rfl (by kernel_rfl) (by simp) ?_
  simp only [Try.f60, argsF]
  refine AW.seq (AW.ofx [] mixed (by kernel_rfl) ?_)
  simp
  refine AW.seq (AW.ofx [] mixed (by kernel_rfl) ?_)
  simp [mLenM.eq, mLenM]
  refine callK.of hL ?_
  rintro z H1 ⟨rfl, rfl⟩
  simp [w1]
  refine AW.seq (AW.ofx [] mixed (by kernel_rfl) ?_)
  simp [mSwapM.eq, mSwapM]
  refine callK.of hS ?_
  rintro z H2 ⟨rfl, rfl⟩
  simp
  refine AW.seq (AW.ofx [] mixed (by kernel_rfl) ?_)
  simp
  refine callK.of hD ?_
  rintro z H3 ⟨k3, hq3⟩
  simp
  have hdl := downF_len n (swapL es 0 n) 0 n
  have hPo := ztpop hq3 (by omega) (by omega)
  rw [show (downF n (swapL es 0 n) 0 n).length - 1 = n by omega] at hPo
  refine AW.ofx [] mixed (by kernel_rfl) ?_
  simp [mPopM.eq, mPopM]
  refine callK.of hPo ?_
  rintro z H4 ⟨rfl, k4, hq4⟩
  simp
  exact ⟨(KpA.set (I := fun x => x = q) KpA.refl rfl).trans (k3.trans k4), hq4⟩
/-- A queue that holds a row of entries, in order. -/
def QQ (H : List Bk) (q : Nat) (hs : List Ent) : Prop := ∃ es, H[q]? = some (qB es) ∧ Held es hs
theorem QQ.keep {H H' : List Bk} {q : Nat} {hs : List Ent} {I : Nat → Prop} (h : QQ H q hs) (k : Kp I H H') (hI : ¬ I q) : QQ H' q hs := by
  obtain ⟨es, h1, h2⟩ := h
  exact ⟨es, k.cells hI h1, h2⟩
theorem znew (H : List Bk) : AFn Try.prog 37 [] H fun y H' => y = .ptr H.length 0 ∧ H' = H ++ [qB []] := by
  refine AFn.intro (fn := Try.f37) (by kernel_rfl) rfl (by kernel_rfl) (by simp) ?_
  simp only [Try.f37, argsF]
  refine AW.seq (AW.ofx [] mixed (by kernel_rfl) ?_)
  simp
  refine AW.seq (AW.ofx [] mixed (by kernel_rfl) ?_)
  simp
  refine AW.weakCell (ownEn []) (id := H.length) (off := 0) (ks := [.v .nil]) (by simp) rfl ⟨rfl, rfl, by decide⟩ rfl ?_
  rw [setBlk_eq' (cs := [.v .nil]) (by simp)]
  refine AW.ofx [] mixed (by kernel_rfl) ?_
  simp [qB]
theorem hNilQ {x y : Operand} : binR Try.prog .eql 74 x y (.pointer none) (.pointer none) = some (.bool true) := by kernel_rfl
theorem zpush {hs : List Ent} (h : QQ H q hs) (hn : hs.length ≤ 1000000) (y : Ent) : AFn Try.prog 58 [.ptr q 0, entV y] H fun z H' => z = .sc (.bool true) ∧ KpA (fun x => x = q) H H' ∧ QQ H' q (put hs y) := by
  obtain ⟨es, hq, hh⟩ := h
  have hP := zhpush (hget (L := [.cells [.v (.sc (.int .u64 y.k)), .v (.sc (.int .u64 y.t)), .v (.sc (.int .i64 y.i))]]) hq) (by rw [hh.len]; exact hn) y
  have hk := hh.push y
  unfold itV at hP
  rw [entV_eq] at hP ⊢
  refine AFn.intro (fn := Try.f58) (by kernel_rfl) rfl (by kernel_rfl) (by simp) ?_
  simp only [Try.f58, argsF]
  refine AW.seq (AW.ofx [] mixed (by kernel_rfl) ?_)
  simp
  refine AW.seq (AW.ofx [] mixed (by kernel_rfl) ?_)
  simp
  refine AW.seq (AW.ofx [] mixed (by kernel_rfl) ?_)
  simp [setCells, setBlk]
  refine callK.of hP ?_
  rintro z H1 ⟨k1, hq1⟩
  simp
  refine AW.ofx [] mixed (by kernel_rfl) ?_
  simp
  exact ⟨KpA.refl.app.trans k1, _, hq1, hk⟩
def popV (hs : List Ent) : V := match hs with
  | [] => .tup [.agg [.sc (.int .u64 0), .sc (.int .u64 0), .sc (.int .i64 0)], .sc (.bool false)]
  | x :: _ => .tup [entV x, .sc (.bool true)]
theorem setCells3 {H : List Bk} {i : Nat} {a b c : SV} {x y z : V} (h : H[i]? = some (.cells [a, b, c])) : setCells H i 0 [x, y, z] = H.set i (.cells [.v x, .v y, .v z]) := by
  have hl := (List.getElem?_eq_some_iff.1 h).1
  simp only [setCells]
  rw [setBlk_eq' h, setBlk_eq' (List.getElem?_set_self hl)]
  rw [List.set_set, setBlk_eq' (List.getElem?_set_self hl), List.set_set]
  rfl
theorem zpop {hs : List Ent} (h : QQ H q hs) (hn : hs.length ≤ 2000000) : AFn Try.prog 39 [.ptr q 0] H fun z H' => z = popV hs ∧ KpA (fun x => x = q) H H' ∧ QQ H' q hs.tail := by
  obtain ⟨es, hq, hh⟩ := h
  have hqL := fun L => hget (L := L) hq
  have hq' := fun L => hget (L := L) hq
  unfold qB ownEn at hq'
  have hlen := hh.len
  refine AFn.intro (fn := Try.f39) (by kernel_rfl) rfl (by kernel_rfl) (by simp) ?_
  simp only [Try.f39, argsF]
  refine AW.seq (AW.ofx [] mixed (by kernel_rfl) ?_)
  simp
  refine AW.seq (AW.ofx [] mixed (by kernel_rfl) ?_)
  cases hs with
  | nil =>
    have he0 : es.length = 0 := hlen
    simp [hq', he0, setCells, setBlk, popV]
    exact ⟨KpA.refl.app, es, hqL _, hh⟩
  | cons x hs =>
    have hk := hh.pop
    simp only [List.length_cons] at hlen hn
    have he0 : es.length ≠ 0 := by omega
    have hP := fun L => zhpop (hqL L) (by omega) (by omega)
    rw [hk.1] at hP
    unfold itV at hP
    rw [entV_eq] at hP
    have he1 : ((es.length : Int) == 0) = false := by rw [beq_eq_false_iff_ne]; omega
    simp [hq', he1]
    refine AW.seq (AW.ofx [] mixed (by kernel_rfl) ?_)
    simp
    refine callK.of (hP _) ?_
    rintro z H1 ⟨rfl, k1, hq1⟩
    have hr1 := k1.cells (i := H.length) (fun e => by
      have := (List.getElem?_eq_some_iff.1 hq).1
      omega) (by simp; rfl)
    simp [setCells, setBlk]
    refine AW.ofx [] mixed (by kernel_rfl) ?_
    have hr2 := hget (L := [.cells [.v (.sc (.int .u64 x.k)), .v (.sc (.int .u64 x.t)), .v (.sc (.int .i64 x.i))]]) hr1
    have hql2 := (List.getElem?_eq_some_iff.1 hr2).1
    have hne : q ≠ H.length := by
      have := (List.getElem?_eq_some_iff.1 hq).1
      omega
    have hqq := hget (L := [.cells [.v (.sc (.int .u64 x.k)), .v (.sc (.int .u64 x.t)), .v (.sc (.int .i64 x.i))]]) hq1
    have hkp : KpA (fun x => x = q) H (H1 ++ [.cells [.v (.sc (.int .u64 x.k)), .v (.sc (.int .u64 x.t)), .v (.sc (.int .i64 x.i))]]) := (KpA.refl.app.trans k1).app
    have f4 : (H1 ++ [Bk.cells [.v (.sc (.int .u64 x.k)), .v (.sc (.int .u64 x.t)), .v (.sc (.int .i64 x.i))]])[H1.length]? = some (Bk.cells [.v (.sc (.int .u64 x.k)), .v (.sc (.int .u64 x.t)), .v (.sc (.int .i64 x.i))]) := by simp
    generalize H1 ++ [Bk.cells [.v (.sc (.int .u64 x.k)), .v (.sc (.int .u64 x.t)), .v (.sc (.int .i64 x.i))]] = H2 at *
    have f1 : ∀ a b c, setCells H2 H.length 0 [a, b, c] = H2.set H.length (.cells [.v a, .v b, .v c]) := fun a b c => setCells3 hr2
    have f3 : ∀ K, (H2.set H.length K)[H.length]? = some K := fun K => List.getElem?_set_self hql2
    simp [f4, f1, f3, hr2, popV, entV_eq]
    refine ⟨?_, _, by rw [List.getElem?_set_ne (Ne.symm hne)]; exact hqq, hk.2⟩
    intro i b hi hb
    by_cases e : i = H.length
    · have := (List.getElem?_eq_some_iff.1 hb).1
      omega
    · rw [List.getElem?_set_ne (Ne.symm e)]
      exact hkp i b hi hb
end
end Go.Proofs.Ytmjnffjacgjfmaa
namespace Go.Proofs.Ytmjnffjacgjfmaa
set_option linter.all false
open Go.RowKit AM

theorem gap_mono {n a0 a1 b0 b1 : Int} (h0 : b0 ≤ a0) (h1 : a1 ≤ b1) (h2 : a0 ≤ a1) : gapZ n b0 b1 ≤ gapZ n a0 a1 := by
  unfold gapZ
  split <;> split <;> (try split) <;> (try split) <;> omega
theorem sq_mono {x y : Int} (h0 : 0 ≤ x) (h : x ≤ y) : x * x ≤ y * y := Int.mul_le_mul h h h0 (by omega)
theorem dist_mono {a b : Re} (p : Pt) (ha : rightR a = true) (hb : rightR b = true) (h : b.x0 ≤ a.x0 ∧ b.y0 ≤ a.y0 ∧ a.x1 ≤ b.x1 ∧ a.y1 ≤ b.y1) : distR b p ≤ distR a p := by
  unfold distR
  rw [ha, hb]
  cases hp : fits p with
  | false => simp
  | true =>
    have ra := right_rng ha
    have rb := right_rng hb
    have rp := fits_rng hp
    have g1 := gapZ_range rp.1 rb.1 rb.2.2.1
    have g2 := gapZ_range rp.2 rb.2.1 rb.2.2.2.1
    have m1 := gap_mono (n := p.x) h.1 h.2.2.1 ra.2.2.2.2.1
    have m2 := gap_mono (n := p.y) h.2.1 h.2.2.2 ra.2.2.2.2.2
    have s1 := sq_mono g1.1 m1
    have s2 := sq_mono g2.1 m2
    simp only [Bool.and_self, if_true]
    omega
theorem perm_pick {α β : Type} {f : α → β} {x : β} {tl : List β} : ∀ {its : List α}, (x :: tl).Perm (its.map f) → ∃ it its', f it = x ∧ its.Perm (it :: its') ∧ tl.Perm (its'.map f) := by
  intro its h
  have hx : x ∈ its.map f := h.mem_iff.1 (List.mem_cons_self ..)
  obtain ⟨it, hit, rfl⟩ := List.mem_map.1 hx
  obtain ⟨a, b, rfl⟩ := List.append_of_mem hit
  refine ⟨it, a ++ b, rfl, List.perm_middle, ?_⟩
  have h2 : ((a ++ it :: b).map f).Perm (f it :: (a ++ b).map f) := List.perm_middle.map f
  exact List.Perm.cons_inv (h.trans h2)
theorem sort_min {x : Ent} {m : List Ent} (h : ∀ y ∈ m, y.lt x = false) : sort (x :: m) = x :: sort m := by
  refine srt_unique (sort_srt _) (List.pairwise_cons.2 ⟨fun y hy => h y ((sort_perm m).mem_iff.1 hy), sort_srt m⟩) ?_
  exact (sort_perm _).trans ((sort_perm m).symm.cons x)
end Go.Proofs.Ytmjnffjacgjfmaa
