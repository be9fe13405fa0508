/- Homes: the program's and the document's; the way down; a fresh node. -/
import Derived.Test.YtdeemchhbgomjaaGreatHb
namespace Go.Proofs.YtdeemchhbgomjaaGreat
set_option linter.all false
open Go.RowKit AM
set_option maxRecDepth 10000
attribute [local simp] aw_skip' aw_region' aw_seq' aw_cond' aw_block' aw_loop' aw_exit' aw_label' aw_ret' aops_nil' aops_cons' aop' aMove aAssign aPick aAlloc aBox aBuild slF aBuildSlice aLoad aLoadOwn aStore aStoreOwn isOwn delR aNilCheck aBin aMakeFunc aFieldAddr aField aIndexOp aIndex partV aIndexAddr aExtract aSliceOp aSlice aShrink aCallOp aCall' aInvoke' aLen aLenMap aDelete aMM aUn aConv aIface aAssert aMakeMap aLookup aMapUpdate aRange aNext aEntry entsOf keyB seekK aMakeSlice lookV aAppend putK layK eval evalV AM.valOf getF putF setF del SV.refers cellsAt rootSV plains shift ldV V.exact V.exactL V.ofValue V.ofPart V.ofCell V.cells V.one Value.oneCell' fitB qSeq qBlock getB afin aret resVs resV resTmps shareF evalS tupV valsS valsV pickV calm calmB lenV useOf feeds shrinks stows looks isT newsV partsV fillV putAt zerosV fitsNil nilB sliceB isEq isNeq awx_skip' awx_region' awx_seq' awx_cond' awx_block' awx_loop' awx_exit' awx_label' awx_ret' xops_nil' xops_cons' xop' xload xcall' addO delO inO putD memB Mix.effB Mix.laysB keysF badK subW weakV zeroRow yops_nil' yops_cons' yop' yload yindex yfield ylen oldO dropO takeO oldL exactB

def ceB (c : Ce) : Bk := .cells [.v (.sc (.int .i64 c.l)), .v (.sc (.int .i64 c.x)), .v (.sc (.int .i64 c.y))]
def homeK (r : Re) (k : Nat) : Ce := if k = 0 then ⟨0, 0, 0⟩ else cellOf r.lo ((k - 1 : Nat) : Int)
def HomeI (r : Re) (k : Nat) (F : Fr) (H : List Bk) : Prop := (∀ j : Nat, j < k → cellOf r.lo j = cellOf r.hi j) ∧ ∃ L h, h = homeK r k ∧ H = reB r :: ceB ⟨0, 0, 0⟩ :: ceB h :: L ∧
  F = [(1, .v (.ptr 0 0)), (2, .v (.ptr 1 0)), (4, .v (.ptr 2 0)), (11, .v (.sc (.int .i64 k)))]
theorem cHome (r : Re) : PFn Tryz.prog 36 [r.v] (.tup [(homeR r).1.v, .sc (.bool (homeR r).2)]) := by
  have hR := gRight r
  have hlo := cof r.lo
  have hhi := cof r.hi
  unfold Re.v Re.cs at hR ⊢
  unfold Pt.v Pt.cs at hlo hhi
  simp only [Re.lo, Re.hi] at hlo hhi
  refine AFn.intro (fn := Tryz.f36) (by kernel_rfl) rfl (by kernel_rfl) (by simp) ?_
  simp only [Tryz.f36, argsF]
  refine AW.seq (AW.ofx [(8, 8, [1, 5, 6])] mixed (by kernel_rfl) ?_)
  simp
  refine AW.scope ?_
  refine AW.seq (AW.ofx [(8, 8, [1, 5, 6])] mixed (by kernel_rfl) ?_)
  simp
  refine callK.pure hR rfl rfl ?_
  cases h1 : rightR r
  · simp [qScope_r, setCells, setBlk, homeR, h1, Ce.v, Ce.cs, Ce.zero]
  have hr := rightR_iff.1 h1
  simp
  refine AW.seq (AW.ofx [(8, 8, [1, 5, 6])] mixed (by kernel_rfl) ?_)
  simp
  refine AW.seq (AW.ofx [(8, 8, [1, 5, 6])] mixed (by kernel_rfl) ?_)
  simp
  refine AW.seq (AW.seq (AW.ofx [(8, 8, [1, 5, 6])] mixed (by kernel_rfl) ?_))
  simp
  refine AW.block ?_
  refine AW.count 17 (HomeI r) ⟨_, ?_, by simp, [], ⟨0, 0, 0⟩, rfl, rfl, rfl⟩ ?_
  · simp [subW, weakV, getF]
  rintro k F H hk ⟨heq, L, h, hh, rfl, rfl⟩
  have done : ∀ n : Nat, k = n + 1 → (n = 16 ∨ cellOf r.lo (n + 1 : Nat) ≠ cellOf r.hi (n + 1 : Nat)) → homeR r = (h, true) := fun n hn h2 => by
    have hle : n ≤ 16 := by omega
    have := homeN_of (r := r) (n := n) (fun j hj => heq j (by omega)) h2 16 hle (Nat.le_refl _)
    simp [homeR, h1, homeOf, this, hh, homeK, hn]
  refine AW.seq (AW.ofx [(8, 8, [1, 5, 6])] mixed (by kernel_rfl) ?_)
  by_cases hlt : k < 17
  · have hlt' : (k : Int) < 17 := by omega
    have w1 : IntKind.i64.wrap ((k : Int) + 1) = (k : Int) + 1 := by rw [wrap_i64] <;> omega
    unfold reB ceB
    simp [hlt']
    refine AW.seq (AW.ofx [(8, 8, [1, 5, 6])] mixed (by kernel_rfl) ?_)
    simp [hlt']
    refine AW.seq (AW.block (AW.seq (AW.ofx [(8, 8, [1, 5, 6])] mixed (by kernel_rfl) ?_)))
    simp
    refine AW.seq (AW.ofx [(8, 8, [1, 5, 6])] mixed (by kernel_rfl) ?_)
    simp
    refine callK.pure (hlo k (by omega) (by omega) (by omega) (by omega)) rfl rfl ?_
    unfold Ce.v Ce.cs
    simp [setCells, setBlk]
    refine AW.seq (AW.ofx [(8, 8, [1, 5, 6])] mixed (by kernel_rfl) ?_)
    simp
    refine callK.pure (hhi k (by omega) (by omega) (by omega) (by omega)) rfl rfl ?_
    unfold Ce.v Ce.cs
    simp only [Re.lo, Re.hi] at heq done
    have hz : k = 0 → cellOf ⟨r.x0, r.y0⟩ k = cellOf ⟨r.x1, r.y1⟩ k := fun e => by
      subst e
      exact (cell_zero (right_fits h1).1).trans (cell_zero (right_fits h1).2).symm
    by_cases he : cellOf ⟨r.x0, r.y0⟩ k = cellOf ⟨r.x1, r.y1⟩ k
    · simp [hEq2, hGCe, he]
      refine AW.ofx [(8, 8, [1, 5, 6])] mixed (by kernel_rfl) ?_
      simp [setCells, setBlk]
      refine AW.ofx [(8, 8, [1, 5, 6])] mixed (by kernel_rfl) ?_
      simp [w1]
      refine ⟨hlt, _, ?_, fun j hj => ?_, L ++ [ceB (cellOf r.hi k)], cellOf r.hi k, ?_, rfl, rfl⟩
      · simp [subW, weakV, getF]
      · rcases Nat.lt_or_ge j k with h | h
        · exact heq j h
        · have : j = k := by omega
          subst this; exact he
      · simp [homeK, Re.lo, Re.hi, he]
    · have he' : ¬ cellOf ⟨r.x1, r.y1⟩ k = cellOf ⟨r.x0, r.y0⟩ k := fun e => he e.symm
      have hk0 : k ≠ 0 := fun e => he (hz e)
      have hd := done (k - 1) (by omega) (.inr (by rw [show k - 1 + 1 = k by omega]; exact he))
      simp [hEq2, hGCe, he']
      refine AW.ofx [(8, 8, [1, 5, 6])] mixed (by kernel_rfl) ?_
      simp [setCells, setBlk, qScope_r, hd]
  · have hlt' : ¬ (k : Int) < 17 := by omega
    have hd := done 16 (by omega) (.inl rfl)
    unfold reB ceB
    simp [hlt']
    refine AW.ofx [(8, 8, [1, 5, 6])] mixed (by kernel_rfl) ?_
    simp
    refine AW.ofx [(8, 8, [1, 5, 6])] mixed (by kernel_rfl) ?_
    simp [setCells, setBlk, qScope_r, hd, Ce.v, Ce.cs]
theorem box_right {c : Ce} (h : rightC c = true) : rightR (boxOf c) = true := by
  have := box_le h
  have hp := side_pos c.l
  rw [rightR_iff]
  simp only [boxOf]
  omega
theorem in_home {r : Re} {l : Int} (h : rightR r = true) (h0 : 0 ≤ l) (hl : l ≤ 16) : inB r (boxOf (cellOf r.lo l)) = decide (cellOf r.lo l = cellOf r.hi l) := by
  have hc := cell_right (right_fits h).1 h0 hl
  have hb := box_right hc
  rw [Bool.eq_iff_iff, decide_eq_true_iff, same_cell h h0 hl]
  have hp := side_pos l
  have m1 := Int.mul_ediv_add_emod r.x0 (side l)
  have m2 := Int.mul_ediv_add_emod r.y0 (side l)
  have n1 := Int.emod_nonneg r.x0 (b := side l) (by omega)
  have n2 := Int.emod_nonneg r.y0 (b := side l) (by omega)
  simp only [inB, h, hb, Bool.true_and, decide_eq_true_iff]
  simp only [boxOf, cellOf, Re.lo]
  generalize side l * (r.x0 / side l) = a at *
  generalize side l * (r.y0 / side l) = b at *
  omega
def HomeD (r : Re) (k : Nat) (F : Fr) (H : List Bk) : Prop := homeN r 16 = homeN r (16 - k) ∧ ∃ L l, l = (16 - (k : Int)) ∧ H = reB r :: ceB ⟨0, 0, 0⟩ :: L ∧
  F = [(1, .v (.ptr 0 0)), (2, .v (.ptr 1 0)), (4, .v (.sc (.int .i64 l)))]
theorem cWay (c h : Ce) (hh : rightC h = true) (h0 : 0 ≤ c.l) (hl : c.l < h.l) : PFn Tryz.prog 41 [c.v, h.v] (.sc (.int .i64 (wayOf c h))) := by
  have hA := cAbove h (c.l + 1)
  have hc := rightC_iff.1 hh
  have ha : aboveR h (c.l + 1) = (aboveOf h (c.l + 1), true) := by
    have e : (decide (0 ≤ c.l + 1) && decide (c.l + 1 ≤ h.l)) = true := by simp; omega
    simp [aboveR, hh, e]
  have hw : wayOf c h = (aboveOf h (c.l + 1)).x % 2 + (aboveOf h (c.l + 1)).y % 2 * 2 := rfl
  have hr := rightC_iff.1 (above_right hh (l := c.l + 1) (by omega) (by omega))
  rw [ha] at hA
  rw [hw]
  generalize aboveOf h (c.l + 1) = a at *
  unfold Ce.v Ce.cs at hA ⊢
  have w1 : IntKind.i64.wrap (c.l + 1) = c.l + 1 := by rw [wrap_i64] <;> omega
  have q1 := Int.emod_nonneg a.x (b := 2) (by decide)
  have q2 := Int.emod_lt_of_pos a.x (b := 2) (by decide)
  have q3 := Int.emod_nonneg a.y (b := 2) (by decide)
  have q4 := Int.emod_lt_of_pos a.y (b := 2) (by decide)
  have t1 : a.x.tmod 2 = a.x % 2 := Int.tmod_eq_emod_of_nonneg (by omega)
  have t2 : a.y.tmod 2 = a.y % 2 := Int.tmod_eq_emod_of_nonneg (by omega)
  have w2 : IntKind.i64.wrap (a.y % 2 * 2) = a.y % 2 * 2 := by rw [wrap_i64] <;> omega
  have w3 : IntKind.i64.wrap (a.x % 2 + a.y % 2 * 2) = a.x % 2 + a.y % 2 * 2 := by rw [wrap_i64] <;> omega
  refine AFn.intro (fn := Tryz.f41) (by kernel_rfl) rfl (by kernel_rfl) (by simp) (AW.ofx [] mixed (by kernel_rfl) ?_)
  simp only [Tryz.f41, argsF]
  simp [w1]
  refine callK.pure hA rfl rfl ?_
  simp [setCells, setBlk, binR_rem, t1, t2, w2, w3]
end Go.Proofs.YtdeemchhbgomjaaGreat
