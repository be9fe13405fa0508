/- Cells over cells, boxes and homes: the program's functions and the document's. -/
import Derived.Test.YtmjnffjacgjfmaaHa
import Derived.Test.YtmjnffjacgjfmaaHz
import Derived.Test.YtmjnffjacgjfmaaGd
import Derived.Test.YtmjnffjacgjfmaaHy
namespace Go.Proofs.Ytmjnffjacgjfmaa
set_option linter.all false
open Go.RowKit AM
set_option maxRecDepth 10000
attribute [local simp] aw_skip' aw_region' aw_seq' aw_cond' aw_block' aw_loop' aw_exit' aw_label' aw_ret' aops_nil' aops_cons' aop' aMove aAssign aPick aAlloc aBox aBuild slF aBuildSlice aLoad aLoadOwn aLoadS sharesAt shares sharedV aStore aStoreOwn isOwn delR aNilCheck aBin aMakeFunc aFieldAddr aField aIndexOp aIndex partV aIndexAddr aExtract aSliceOp aSlice slV aShrink aCallOp aCall' aInvoke' aLen aLenMap aDelete aMM aUn aConv aIface aAssert aMakeMap aLookup aMapUpdate aRange aNext aEntry entsOf keyB seekK aMakeSlice lookV aApp aAppendB aAppendF aAppend putK layK eval evalV AM.valOf getF putF setF del SV.refers cellsAt rootSV plains shift ldV V.exact V.exactL V.ofValue V.ofPart V.ofCell V.cells V.one Value.oneCell' fitB qSeq qBlock getB afin aret resVs resV resTmps shareF evalS tupV valsS valsV pickV calm calmB lenV useOf feeds shrinks stows looks isT newsV partsV fillV putAt zerosV fitsNil nilB sliceB isEq isNeq awx_skip' awx_region' awx_seq' awx_cond' awx_block' awx_loop' awx_exit' awx_label' awx_ret' xops_nil' xops_cons' xop' xload xcall' addO delO inO putD memB Mix.effB Mix.laysB keysF badK subW weakV zeroRow yops_nil' yops_cons' yop' yload yindex yfield ylen oldO dropO takeO oldL exactB V.fixed V.fixedL

theorem hEqCe (a b c a' b' c' : Int) : eqT Try.prog 10 69 (.agg #[.int .i64 a, .int .i64 b, .int .i64 c]) (.agg #[.int .i64 a', .int .i64 b', .int .i64 c']) = some (a == a' && (b == b' && (c == c' && true))) := by kernel_rfl
theorem hGCe : Try.prog.eqGuardType Try.prog.depth 69 = false := by kernel_rfl
theorem ce_eq {a b : Ce} : a = b ↔ a.l = b.l ∧ a.x = b.x ∧ a.y = b.y := by
  cases a; cases b; simp
theorem hEq2 (p q : Ce) : eqT Try.prog 10 69 (.agg #[.int .i64 p.l, .int .i64 p.x, .int .i64 p.y]) (.agg #[.int .i64 q.l, .int .i64 q.x, .int .i64 q.y]) = some (decide (p = q)) := by
  rw [hEqCe]
  congr 1
  rw [Bool.eq_iff_iff, decide_eq_true_iff, ce_eq]
  simp
theorem shr_two {x n : Int} (h : 0 ≤ x) (h0 : 0 ≤ n) (h1 : n ≤ 64) : shrI .i64 x n = x / two n := shr_div (.inl rfl) h h0 h1
theorem cAbove (h : Ce) (l : Int) : PFn Try.prog 78 [h.v, .sc (.int .i64 l)] (.tup [(aboveR h l).1.v, .sc (.bool (aboveR h l).2)]) := by
  have hF := cRightC h
  unfold Ce.v Ce.cs at hF ⊢
  refine AFn.intro (fn := Try.f78) (by kernel_rfl) rfl (by kernel_rfl) (by simp) (AW.ofx [] mixed (by kernel_rfl) ?_)
  simp only [Try.f78, argsF]
  simp
  refine callK.pure hF rfl rfl ?_
  cases h1 : rightC h
  · simp [setCells, setBlk, aboveR, h1, Ce.v, Ce.cs, Ce.zero]
  have hc := rightC_iff.1 h1
  simp
  refine callK.pure (cright _) rfl rfl ?_
  cases h2 : rightL l
  · have : ¬ (0 ≤ l ∧ l ≤ h.l) := fun e => by
      have := rightL_iff.2 (show 0 ≤ l ∧ l ≤ 16 by omega)
      rw [h2] at this; cases this
    simp only [Classical.not_and_iff_not_or_not, Int.not_le] at this
    have e : (decide (0 ≤ l) && decide (l ≤ h.l)) = false := by simp; omega
    simp [setCells, setBlk, aboveR, h1, e, Ce.v, Ce.cs, Ce.zero]
  have h3 := rightL_iff.1 h2
  simp
  by_cases h4 : h.l < l
  · have e : (decide (0 ≤ l) && decide (l ≤ h.l)) = false := by simp; omega
    simp [setCells, setBlk, aboveR, h1, e, h4, Ce.v, Ce.cs, Ce.zero]
  have e : (decide (0 ≤ l) && decide (l ≤ h.l)) = true := by simp; omega
  have w1 : IntKind.i64.wrap (h.l - l) = h.l - l := by rw [wrap_i64] <;> omega
  have s1 : shrI .i64 h.x (h.l - l) = h.x / two (h.l - l) := shr_two hc.2.1 (by omega) (by omega)
  have s2 : shrI .i64 h.y (h.l - l) = h.y / two (h.l - l) := shr_two hc.2.2.1 (by omega) (by omega)
  have hn : ¬ h.l - l < 0 := by omega
  simp [setCells, setBlk, aboveR, h1, e, h4, w1, hn, binR_shr, s1, s2, Ce.v, Ce.cs, aboveOf]
theorem cChild (c : Ce) (i : Int) : PFn Try.prog 83 [c.v, .sc (.int .i64 i)] (.tup [(childR c i).1.v, .sc (.bool (childR c i).2)]) := by
  have hF := cRightC c
  unfold Ce.v Ce.cs at hF ⊢
  refine AFn.intro (fn := Try.f83) (by kernel_rfl) rfl (by kernel_rfl) (by simp) (AW.ofx [] mixed (by kernel_rfl) ?_)
  simp only [Try.f83, argsF]
  simp
  refine callK.pure hF rfl rfl ?_
  cases h1 : rightC c
  · simp [setCells, setBlk, childR, h1, Ce.v, Ce.cs, Ce.zero]
  have h := rightC_iff.1 h1
  have hb := two_le h.1.2
  simp
  by_cases h2 : c.l = 16
  · simp [setCells, setBlk, childR, h1, h2, Ce.v, Ce.cs, Ce.zero]
  have h2' : (c.l == 16) = false := by simpa using h2
  simp [h2']
  by_cases h3 : i < 0
  · have : ¬ 0 ≤ i := by omega
    simp [setCells, setBlk, childR, h1, h2, h3, this, Ce.v, Ce.cs, Ce.zero]
  simp [h3]
  by_cases h4 : 3 < i
  · have : ¬ i ≤ 3 := by omega
    simp [setCells, setBlk, childR, h1, h2, h4, this, Ce.v, Ce.cs, Ce.zero]
  have h5 : 0 ≤ i ∧ i ≤ 3 := by omega
  have m1 := Int.emod_nonneg i (b := 2) (by decide)
  have m2 := Int.emod_lt_of_pos i (b := 2) (by decide)
  have w1 : IntKind.i64.wrap (c.l + 1) = c.l + 1 := by rw [wrap_i64] <;> omega
  have w2 : IntKind.i64.wrap (2 * c.x) = 2 * c.x := by rw [wrap_i64] <;> omega
  have w3 : IntKind.i64.wrap (2 * c.y) = 2 * c.y := by rw [wrap_i64] <;> omega
  have w4 : i.tmod 2 = i % 2 := Int.tmod_eq_emod_of_nonneg h5.1
  have w5 : IntKind.i64.wrap (i.tdiv 2) = i / 2 := by rw [Int.tdiv_eq_ediv_of_nonneg h5.1, wrap_i64] <;> omega
  have w6 : IntKind.i64.wrap (2 * c.x + i % 2) = 2 * c.x + i % 2 := by rw [wrap_i64] <;> omega
  have w7 : IntKind.i64.wrap (2 * c.y + i / 2) = 2 * c.y + i / 2 := by rw [wrap_i64] <;> omega
  simp [h4, binR_quo, binR_rem, w1, w2, w3, w4, w5, w6, w7, setCells, setBlk, childR, h1, h2, h5, Ce.v, Ce.cs]
theorem shl_side {l n : Int} (h : 0 ≤ l) (h' : l ≤ 16) (hn : 0 ≤ n) (hn' : n ≤ 65536) : shlI .i64 n (16 - l) = side l * n := by
  obtain ⟨k, rfl⟩ := Int.eq_ofNat_of_zero_le h
  obtain ⟨m, rfl⟩ := Int.eq_ofNat_of_zero_le hn
  have e : 16 - (k : Int) = ((16 - k : Nat) : Int) := by omega
  have hp := Nat.pow_le_pow_right (n := 2) (by decide) (show 16 - k ≤ 16 by omega)
  have e16 : 2 ^ 16 = 65536 := by decide
  have hm : m * 2 ^ (16 - k) ≤ 65536 * 65536 := Nat.mul_le_mul (by omega) (by omega)
  unfold side
  rw [e, shlI_i64 _ _ (by omega) (by omega), two_nat]
  simp [Int.mul_comm]
theorem cFirst (l n : Int) (h : 0 ≤ l) (h' : l ≤ 16) (hn : 0 ≤ n) (hn' : n ≤ 65536) : PFn Try.prog 90 [.sc (.int .i64 l), .sc (.int .i64 n)] (.sc (.int .i64 (side l * n))) := by
  refine AFn.intro (fn := Try.f90) (by kernel_rfl) rfl (by kernel_rfl) (by simp) (AW.ofx [] mixed (by kernel_rfl) ?_)
  simp only [Try.f90, argsF]
  simp
  refine callK.pure (cShift l h h') rfl rfl ?_
  have : ¬ 16 - l < 0 := by omega
  simp [binR_shl, this, shl_side h h' hn hn']
theorem cLast (l n : Int) (h : 0 ≤ l) (h' : l ≤ 16) (hn : 0 ≤ n) (hn' : n < 65536) (hb : side l * n + side l ≤ 65536) (hb0 : 0 ≤ side l * n) : PFn Try.prog 91 [.sc (.int .i64 l), .sc (.int .i64 n)] (.sc (.int .i64 (side l * n + side l - 1))) := by
  refine AFn.intro (fn := Try.f91) (by kernel_rfl) rfl (by kernel_rfl) (by simp) (AW.ofx [] mixed (by kernel_rfl) ?_)
  simp only [Try.f91, argsF]
  have w1 : IntKind.i64.wrap (n + 1) = n + 1 := by rw [wrap_i64] <;> omega
  simp [w1]
  refine callK.pure (cShift l h h') rfl rfl ?_
  have : ¬ 16 - l < 0 := by omega
  have s1 := shl_side h h' (n := n + 1) (by omega) (by omega)
  rw [Int.mul_add, Int.mul_one] at s1
  have hp := side_pos l
  have w2 : IntKind.i64.wrap (side l * n + side l - 1) = side l * n + side l - 1 := by rw [wrap_i64] <;> omega
  simp [binR_shl, this, s1, w2]
theorem cBox (c : Ce) : PFn Try.prog 68 [c.v] (.tup [(boxR c).1.v, .sc (.bool (boxR c).2)]) := by
  have hF := cRightC c
  unfold Ce.v Ce.cs at hF ⊢
  refine AFn.intro (fn := Try.f68) (by kernel_rfl) rfl (by kernel_rfl) (by simp) ?_
  simp only [Try.f68, argsF]
  refine AW.seq (AW.ofx [] mixed (by kernel_rfl) ?_)
  simp
  refine AW.seq (AW.ofx [] mixed (by kernel_rfl) ?_)
  simp
  refine callK.pure hF rfl rfl ?_
  cases h1 : rightC c
  · simp [setCells, setBlk, boxR, h1, Re.v, Re.cs, Re.zero]
  have h := rightC_iff.1 h1
  have hb := box_le h1
  have ht := two_le h.1.2
  simp
  refine AW.seq (AW.ofx [] mixed (by kernel_rfl) ?_)
  simp
  refine AW.seq (AW.ofx [] mixed (by kernel_rfl) ?_)
  simp
  refine callK.pure (cPair _ _ _ _ _ _ (cFirst c.l c.x h.1.1 h.1.2 h.2.1 (by omega)) (cFirst c.l c.y h.1.1 h.1.2 h.2.2.1 (by omega))) rfl rfl ?_
  simp
  refine AW.seq (AW.ofx [] mixed (by kernel_rfl) ?_)
  simp
  refine callK.pure (cPair _ _ _ _ _ _ (cLast c.l c.x h.1.1 h.1.2 h.2.1 (by omega) hb.1.2 hb.1.1) (cLast c.l c.y h.1.1 h.1.2 h.2.2.1 (by omega) hb.2.2 hb.2.1)) rfl rfl ?_
  simp
  refine AW.ofx [] mixed (by kernel_rfl) ?_
  simp [setCells, setBlk, boxR, h1, Re.v, Re.cs, boxOf]
theorem gBothHas (r b : Re) : PFn Try.prog 67 [r.v, .fn (.func 92) [b.v] []] (.sc (.bool (decide (b.x0 ≤ r.x0 ∧ r.x0 ≤ b.x1 ∧ b.y0 ≤ r.y0 ∧ r.y0 ≤ b.y1) && decide (b.x0 ≤ r.x1 ∧ r.x1 ≤ b.x1 ∧ b.y0 ≤ r.y1 ∧ r.y1 ≤ b.y1)))) := by
  have h1 := gLow r
  have h2 := gHigh r
  have h3 := gBoxHas b ⟨r.x0, r.y0⟩
  have h4 := gBoxHas b ⟨r.x1, r.y1⟩
  simp only [and_assoc] at h3 h4
  unfold Re.v Re.cs at h1 h2 h3 h4 ⊢
  unfold Pt.v Pt.cs at h1 h2 h3 h4
  generalize decide (b.x0 ≤ r.x0 ∧ r.x0 ≤ b.x1 ∧ b.y0 ≤ r.y0 ∧ r.y0 ≤ b.y1) = d1 at *
  generalize decide (b.x0 ≤ r.x1 ∧ r.x1 ≤ b.x1 ∧ b.y0 ≤ r.y1 ∧ r.y1 ≤ b.y1) = d2 at *
  refine AFn.intro (fn := Try.f67) (by kernel_rfl) rfl (by kernel_rfl) (by simp) (AW.ofx [] mixed (by kernel_rfl) ?_)
  simp only [Try.f67, argsF]
  simp
  refine callK.pure h1 rfl rfl ?_
  simp
  refine callK.pure h3 rfl rfl ?_
  cases d1 with
  | false => simp
  | true =>
    simp
    refine callK.pure h2 rfl rfl ?_
    simp
    refine callK.pure h4 rfl rfl ?_
    simp
theorem inB_of {a b : Re} (ha : rightR a = true) (hb : rightR b = true) : (decide (b.x0 ≤ a.x0 ∧ a.x0 ≤ b.x1 ∧ b.y0 ≤ a.y0 ∧ a.y0 ≤ b.y1) && decide (b.x0 ≤ a.x1 ∧ a.x1 ≤ b.x1 ∧ b.y0 ≤ a.y1 ∧ a.y1 ≤ b.y1)) = inB a b := by
  have h1 := rightR_iff.1 ha
  have h2 := rightR_iff.1 hb
  rw [Bool.eq_iff_iff]
  simp only [inB, ha, hb, Bool.true_and, Bool.and_eq_true, decide_eq_true_iff]
  omega
theorem gIn (a b : Re) : PFn Try.prog 70 [a.v, b.v] (.sc (.bool (inB a b))) := by
  have h1 := gRight a
  have h2 := gRight b
  have h3 := gBothHas a b
  have h4 := inB_of (a := a) (b := b)
  cases e : rightR a with
  | false =>
    have : inB a b = false := by simp [inB, e]
    rw [this]
    rw [e] at h1
    unfold Re.v Re.cs at h1 ⊢
    refine AFn.intro (fn := Try.f70) (by kernel_rfl) rfl (by kernel_rfl) (by simp) (AW.ofx [] mixed (by kernel_rfl) ?_)
    simp only [Try.f70, argsF]
    simp
    refine callK.pure h1 rfl rfl ?_
    simp
  | true =>
    rw [e] at h1
    cases e2 : rightR b with
    | false =>
      have : inB a b = false := by simp [inB, e2]
      rw [this]
      rw [e2] at h2
      unfold Re.v Re.cs at h1 h2 ⊢
      refine AFn.intro (fn := Try.f70) (by kernel_rfl) rfl (by kernel_rfl) (by simp) (AW.ofx [] mixed (by kernel_rfl) ?_)
      simp only [Try.f70, argsF]
      simp
      refine callK.pure h1 rfl rfl ?_
      simp
      refine callK.pure h2 rfl rfl ?_
      simp
    | true =>
      rw [e2] at h2
      rw [h4 e e2] at h3
      unfold Re.v Re.cs at h1 h2 h3 ⊢
      refine AFn.intro (fn := Try.f70) (by kernel_rfl) rfl (by kernel_rfl) (by simp) (AW.ofx [] mixed (by kernel_rfl) ?_)
      simp only [Try.f70, argsF]
      simp
      refine callK.pure h1 rfl rfl ?_
      simp
      refine callK.pure h2 rfl rfl ?_
      simp
      refine callK.pure h3 rfl rfl ?_
      simp
end Go.Proofs.Ytmjnffjacgjfmaa
