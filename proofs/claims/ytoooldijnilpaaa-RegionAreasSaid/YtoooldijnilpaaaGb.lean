/- Cells: the functions that only reckon. -/
import Derived.Test.YtoooldijnilpaaaGa
namespace Go.Proofs.Ytoooldijnilpaaa
set_option linter.all false
open Go.RowKit AM
set_option maxRecDepth 10000
attribute [local simp] aw_skip' aw_region' aw_seq' aw_cond' aw_block' aw_loop' aw_exit' aw_label' aw_ret' aops_nil' aops_cons' aop' aMove aAssign aPick aAlloc aBox aBuild aBuildSlice aLoad aLoadOwn aStore aStoreOwn isOwn delR aNilCheck aBin aMakeFunc aFieldAddr aField aIndexAddr aExtract aSliceOp aSlice aCallOp aCall' aLen aLenMap aDelete aMM aUn aConv aIface aAssert aMakeMap aLookup aMapUpdate aRange aNext aEntry entsOf keyB lookV aAppend putK layK eval evalV AM.valOf getF putF setF del SV.refers cellsAt rootSV plains shift ldV V.exact V.exactL V.ofValue V.ofPart V.ofCell V.cells V.one Value.oneCell' fitB qSeq qBlock getB afin aret resVs resV resTmps shareF evalS tupV valsS valsV pickV calm calmB lenV useOf feeds looks isT newsV partsV fillV putAt zerosV fitsNil nilB isEq isNeq awx_skip' awx_region' awx_seq' awx_cond' awx_block' awx_loop' awx_exit' awx_label' awx_ret' xops_nil' xops_cons' xop' xload xcall' addO delO inO putD memB Mix.effB Mix.laysB keysF badK subW weakV zeroRow yops_nil' yops_cons' yop' yload yindex yfield ylen oldO dropO takeO oldL exactB

theorem rightL_iff {l : Int} : rightL l = true ↔ 0 ≤ l ∧ l ≤ 16 := by simp [rightL]
theorem fits_iff {p : Pt} : fits p = true ↔ (0 ≤ p.x ∧ p.x ≤ 65535) ∧ 0 ≤ p.y ∧ p.y ≤ 65535 := by simp [fits, inside]
theorem refRightC (c : Ce) : PFn Try.prog 22 [c.v] (.sc (.bool (rightC c))) := by
  unfold Ce.v Ce.cs
  refine AFn.intro (fn := Try.f22) (by kernel_rfl) rfl (by kernel_rfl) (by simp) (AW.ofx [(1, 27, [1])] mixed (by kernel_rfl) ?_)
  simp only [Try.f22, argsF]
  simp
  refine callK.pure (refLevel _) rfl rfl ?_
  cases h1 : rightL c.l
  · simp [rightC, h1]
  have h := rightL_iff.1 h1
  simp
  refine gd.intro (fun e => ?_) (fun e => ?_)
  rotate_left
  · simp at e
    simp [rightC, h1]
    omega
  try simp
  refine gd.intro (fun e2 => ?_) (fun e2 => ?_)
  rotate_left
  · simp at e2
    simp [rightC, h1]
    omega
  try simp
  refine callK.pure (refTwo _ h.2) rfl rfl ?_
  try simp
  refine gd.intro (fun e3 => ?_) (fun e3 => ?_)
  rotate_left
  · simp at e3
    simp [rightC, h1]
    omega
  try simp
  refine callK.pure (refTwo _ h.2) rfl rfl ?_
  simp at e e2 e3
  simp [rightC, h1, e, e2, e3]
theorem side_pos (l : Int) : 0 < side l := two_pos _
theorem side_le {l : Int} (h : 0 ≤ l) : side l ≤ 65536 := two_le (by omega)
theorem div_le' {a b : Int} (h : 0 ≤ a) (hb : 0 < b) : 0 ≤ a / b ∧ a / b ≤ a := ⟨Int.ediv_nonneg h (by omega), by
  have := Int.ediv_le_self b h
  exact this⟩
theorem refOf (p : Pt) (l : Int) : PFn Try.prog 52 [p.v, .sc (.int .i64 l)] (.tup [(ofR p l).1.v, .sc (.bool (ofR p l).2)]) := by
  have hF := refFits p
  unfold Pt.v Pt.cs at hF ⊢
  refine AFn.intro (fn := Try.f52) (by kernel_rfl) rfl (by kernel_rfl) (by simp) (AW.ofx [(3, 11, [1, 2])] mixed (by kernel_rfl) ?_)
  simp only [Try.f52, argsF]
  simp
  refine callK.pure (refLevel _) rfl rfl ?_
  cases h1 : rightL l
  · simp [setCells, setBlk, ofR, h1, Ce.v, Ce.cs, Ce.zero]
  simp
  refine callK.pure hF rfl rfl ?_
  cases h2 : fits p
  · simp [setCells, setBlk, ofR, h1, h2, Ce.v, Ce.cs, Ce.zero]
  have h := rightL_iff.1 h1
  have h3 := fits_iff.1 h2
  have hp := side_pos l
  have hne : side l ≠ 0 := by omega
  simp
  refine callK.pure (refSide l h.1 h.2) rfl rfl ?_
  simp [binR_quo, hne]
  refine callK.pure (refSide l h.1 h.2) rfl rfl ?_
  have q1 := div_le' h3.1.1 hp
  have q2 := div_le' h3.2.1 hp
  have w1 : IntKind.i64.wrap (p.x.tdiv (side l)) = p.x / side l := by rw [Int.tdiv_eq_ediv_of_nonneg h3.1.1, wrap_i64] <;> omega
  have w2 : IntKind.i64.wrap (p.y.tdiv (side l)) = p.y / side l := by rw [Int.tdiv_eq_ediv_of_nonneg h3.2.1, wrap_i64] <;> omega
  simp [binR_quo, hne, w1, w2, setCells, setBlk, ofR, h1, h2, Ce.v, Ce.cs, cellOf]
theorem rightC_iff {c : Ce} : rightC c = true ↔ (0 ≤ c.l ∧ c.l ≤ 16) ∧ 0 ≤ c.x ∧ 0 ≤ c.y ∧ c.x < two c.l ∧ c.y < two c.l := by
  simp [rightC, rightL]
  grind
theorem two_mul {a b : Int} (ha : 0 ≤ a) (hb : 0 ≤ b) : two (a + b) = two a * two b := by
  obtain ⟨m, rfl⟩ := Int.eq_ofNat_of_zero_le ha
  obtain ⟨n, rfl⟩ := Int.eq_ofNat_of_zero_le hb
  unfold two
  rw [← Int.pow_add]
  congr 1
theorem box_le {c : Ce} (h : rightC c = true) : (0 ≤ side c.l * c.x ∧ side c.l * c.x + side c.l ≤ 65536) ∧ 0 ≤ side c.l * c.y ∧ side c.l * c.y + side c.l ≤ 65536 := by
  obtain ⟨h1, h2, h3, h4, h5⟩ := rightC_iff.1 h
  have hs := side_pos c.l
  have e : side c.l * two c.l = 65536 := by
    unfold side
    rw [← two_mul (by omega) h1.1, show 16 - c.l + c.l = 16 by omega]
    decide
  have k1 : side c.l * (c.x + 1) ≤ side c.l * two c.l := Int.mul_le_mul_of_nonneg_left (by omega) (by omega)
  have k2 : side c.l * (c.y + 1) ≤ side c.l * two c.l := Int.mul_le_mul_of_nonneg_left (by omega) (by omega)
  have k3 := Int.mul_nonneg (a := side c.l) (b := c.x) (by omega) h2
  have k4 := Int.mul_nonneg (a := side c.l) (b := c.y) (by omega) h3
  rw [Int.mul_add] at k1 k2
  omega
theorem refBox (c : Ce) : PFn Try.prog 55 [c.v] (.tup [(boxR c).1.v, .sc (.bool (boxR c).2)]) := by
  have hF := refRightC c
  unfold Ce.v Ce.cs at hF ⊢
  refine AFn.intro (fn := Try.f55) (by kernel_rfl) rfl (by kernel_rfl) (by simp) (AW.ofx [] mixed (by kernel_rfl) ?_)
  simp only [Try.f55, argsF]
  simp
  refine callK.pure hF rfl rfl ?_
  cases h1 : rightC c
  · simp [setCells, setBlk, boxR, h1, Re.v, Re.cs, Re.zero]
  have h := rightC_iff.1 h1
  have hb := box_le h1
  have hp := side_pos c.l
  simp
  refine callK.pure (refSide c.l h.1.1 h.1.2) rfl rfl ?_
  have w1 : IntKind.i64.wrap (side c.l * c.x) = side c.l * c.x := by rw [wrap_i64] <;> omega
  have w2 : IntKind.i64.wrap (side c.l * c.y) = side c.l * c.y := by rw [wrap_i64] <;> omega
  have w3 : IntKind.i64.wrap (side c.l * c.x + side c.l) = side c.l * c.x + side c.l := by rw [wrap_i64] <;> omega
  have w4 : IntKind.i64.wrap (side c.l * c.y + side c.l) = side c.l * c.y + side c.l := by rw [wrap_i64] <;> omega
  have w5 : IntKind.i64.wrap (side c.l * c.x + side c.l - 1) = side c.l * c.x + side c.l - 1 := by rw [wrap_i64] <;> omega
  have w6 : IntKind.i64.wrap (side c.l * c.y + side c.l - 1) = side c.l * c.y + side c.l - 1 := by rw [wrap_i64] <;> omega
  simp [w1, w2, w3, w4, w5, w6, setCells, setBlk, boxR, h1, Re.v, Re.cs, boxOf]
theorem refChild (c : Ce) (i : Int) : PFn Try.prog 23 [c.v, .sc (.int .i64 i)] (.tup [(childR c i).1.v, .sc (.bool (childR c i).2)]) := by
  have hF := refRightC c
  unfold Ce.v Ce.cs at hF ⊢
  refine AFn.intro (fn := Try.f23) (by kernel_rfl) rfl (by kernel_rfl) (by simp) (AW.ofx [] mixed (by kernel_rfl) ?_)
  simp only [Try.f23, argsF]
  simp
  refine callK.pure hF rfl rfl ?_
  cases h1 : rightC c
  · simp [setCells, setBlk, childR, h1, Ce.v, Ce.cs, Ce.zero]
  have h := rightC_iff.1 h1
  have hb := two_le h.1.2
  simp
  by_cases h2 : c.l = 16
  · simp [setCells, setBlk, childR, h1, h2, Ce.v, Ce.cs, Ce.zero]
  have h2' : (c.l == 16) = false := by simpa using h2
  simp [h2']
  by_cases h3 : i < 0
  · have : ¬ 0 ≤ i := by omega
    simp [setCells, setBlk, childR, h1, h2, h3, this, Ce.v, Ce.cs, Ce.zero]
  simp [h3]
  by_cases h4 : 3 < i
  · have : ¬ i ≤ 3 := by omega
    simp [setCells, setBlk, childR, h1, h2, h4, this, Ce.v, Ce.cs, Ce.zero]
  have h5 : 0 ≤ i ∧ i ≤ 3 := by omega
  have m1 := Int.emod_nonneg i (b := 2) (by decide)
  have m2 := Int.emod_lt_of_pos i (b := 2) (by decide)
  have w1 : IntKind.i64.wrap (c.l + 1) = c.l + 1 := by rw [wrap_i64] <;> omega
  have w2 : IntKind.i64.wrap (2 * c.x) = 2 * c.x := by rw [wrap_i64] <;> omega
  have w3 : IntKind.i64.wrap (2 * c.y) = 2 * c.y := by rw [wrap_i64] <;> omega
  have w4 : i.tmod 2 = i % 2 := Int.tmod_eq_emod_of_nonneg h5.1
  have w5 : IntKind.i64.wrap (i.tdiv 2) = i / 2 := by rw [Int.tdiv_eq_ediv_of_nonneg h5.1, wrap_i64] <;> omega
  have w6 : IntKind.i64.wrap (2 * c.x + i % 2) = 2 * c.x + i % 2 := by rw [wrap_i64] <;> omega
  have w7 : IntKind.i64.wrap (2 * c.y + i / 2) = 2 * c.y + i / 2 := by rw [wrap_i64] <;> omega
  simp [h4, binR_quo, binR_rem, w1, w2, w3, w4, w5, w6, w7, setCells, setBlk, childR, h1, h2, h5, Ce.v, Ce.cs]
end Go.Proofs.Ytoooldijnilpaaa
