/- Codes of cells, and cells of codes: the functions that only reckon. -/
import Derived.Test.YtoooldijnilpaaaGb
namespace Go.Proofs.Ytoooldijnilpaaa
set_option linter.all false
open Go.RowKit AM
set_option maxRecDepth 10000
attribute [local simp] aw_skip' aw_region' aw_seq' aw_cond' aw_block' aw_loop' aw_exit' aw_label' aw_ret' aops_nil' aops_cons' aop' aMove aAssign aPick aAlloc aBox aBuild aBuildSlice aLoad aLoadOwn aStore aStoreOwn isOwn delR aNilCheck aBin aMakeFunc aFieldAddr aField aIndexAddr aExtract aSliceOp aSlice aCallOp aCall' aLen aLenMap aDelete aMM aUn aConv aIface aAssert aMakeMap aLookup aMapUpdate aRange aNext aEntry entsOf keyB lookV aAppend putK layK eval evalV AM.valOf getF putF setF del SV.refers cellsAt rootSV plains shift ldV V.exact V.exactL V.ofValue V.ofPart V.ofCell V.cells V.one Value.oneCell' fitB qSeq qBlock getB afin aret resVs resV resTmps shareF evalS tupV valsS valsV pickV calm calmB lenV useOf feeds looks isT newsV partsV fillV putAt zerosV fitsNil nilB isEq isNeq awx_skip' awx_region' awx_seq' awx_cond' awx_block' awx_loop' awx_exit' awx_label' awx_ret' xops_nil' xops_cons' xop' xload xcall' addO delO inO putD memB Mix.effB Mix.laysB keysF badK subW weakV zeroRow yops_nil' yops_cons' yop' yload yindex yfield ylen oldO dropO takeO oldL exactB

theorem toU64 (z : Int) : convR Try.prog 3 67 (.int .i64 z) = some (.int .u64 (IntKind.u64.wrap z)) := convR_int Ty.u3 Ty.u67
theorem toI64 (z : Int) : convR Try.prog 67 3 (.int .u64 z) = some (.int .i64 (IntKind.i64.wrap z)) := convR_int Ty.u67 Ty.u3
/-- A cell that may be, in natural numbers. -/
theorem rightC_nat {c : Ce} (h : rightC c = true) : ∃ n x y : Nat, c = ⟨n, x, y⟩ ∧ n ≤ 16 ∧ x < 2 ^ n ∧ y < 2 ^ n := by
  obtain ⟨h1, h2, h3, h4, h5⟩ := rightC_iff.1 h
  obtain ⟨n, hn⟩ := Int.eq_ofNat_of_zero_le h1.1
  obtain ⟨x, hx⟩ := Int.eq_ofNat_of_zero_le h2
  obtain ⟨y, hy⟩ := Int.eq_ofNat_of_zero_le h3
  obtain ⟨l, cx, cy⟩ := c
  simp only at *
  subst hn hx hy
  rw [two_nat] at h4 h5
  exact ⟨n, x, y, rfl, by omega, by omega, by omega⟩
theorem rightC_of {n x y : Nat} (h : n ≤ 16) (hx : x < 2 ^ n) (hy : y < 2 ^ n) : rightC ⟨n, x, y⟩ = true := by
  rw [rightC_iff]
  simp only [two_nat]
  omega
theorem codeR_nat {n x y : Nat} (h : n ≤ 16) (hx : x < 2 ^ n) (hy : y < 2 ^ n) : codeR ⟨n, x, y⟩ = (mort n x y, true) := by
  unfold codeR
  rw [rightC_of h hx hy]
  simp
theorem mort_le {n : Nat} (h : n ≤ 16) (x y : Nat) : mort n x y < 4294967296 := by
  have := mort_lt n x y
  have h2 := Nat.pow_le_pow_right (n := 4) (by decide) h
  have : 4 ^ 16 = 4294967296 := by decide
  omega
theorem codeR_le (c : Ce) : ((codeR c).1 : Int) < 4294967296 := by
  unfold codeR
  split
  · rename_i h
    obtain ⟨n, x, y, rfl, h1, _, _⟩ := rightC_nat h
    have := mort_le h1 x y
    simp
    omega
  · simp
theorem codeR_ge (c : Ce) : (0 : Int) ≤ ((codeR c).1 : Int) := by omega
theorem codeR_two {c : Ce} (h : rightC c = true) : (codeR c).2 = true := by simp [codeR, h]
theorem codeR_step {c : Ce} (h : rightC c = true) (h0 : c.l ≠ 0) : rightC ⟨c.l - 1, c.x / 2, c.y / 2⟩ = true ∧ ((codeR c).1 : Int) = 4 * ((codeR ⟨c.l - 1, c.x / 2, c.y / 2⟩).1 : Int) + (2 * (c.y % 2) + c.x % 2) := by
  obtain ⟨n, x, y, rfl, h1, h2, h3⟩ := rightC_nat h
  obtain ⟨m, rfl⟩ : ∃ m, n = m + 1 := ⟨n - 1, by simp at h0; omega⟩
  have e : (⟨((m + 1 : Nat) : Int) - 1, (x : Int) / 2, (y : Int) / 2⟩ : Ce) = ⟨(m : Nat), ((x / 2 : Nat) : Int), ((y / 2 : Nat) : Int)⟩ := by simp
  simp only
  rw [Nat.pow_succ] at h2 h3
  rw [e, codeR_nat (n := m) (by omega) (by omega) (by omega), codeR_nat (n := m + 1) h1 (by rw [Nat.pow_succ]; omega) (by rw [Nat.pow_succ]; omega), mort_succ]
  refine ⟨rightC_of (by omega) (by omega) (by omega), ?_⟩
  simp
theorem refCode (n : Nat) : ∀ c : Ce, c.l.toNat = n → PFn Try.prog 94 [c.v] (.tup [.sc (.int .u64 (codeR c).1), .sc (.bool (codeR c).2)]) := by
  induction n with
  | zero =>
    intro c hc
    have hF := refRightC c
    unfold Ce.v Ce.cs at hF ⊢
    refine AFn.intro (fn := Try.f94) (by kernel_rfl) rfl (by kernel_rfl) (by simp) (AW.ofx [] mixed (by kernel_rfl) ?_)
    simp only [Try.f94, argsF]
    simp
    refine callK.pure hF rfl rfl ?_
    cases h1 : rightC c
    · simp [codeR, h1]
    have h := rightC_iff.1 h1
    have h0 : c.l = 0 := by omega
    simp [h0, codeR, h1, mort]
  | succ n ih =>
    intro c hc
    have hF := refRightC c
    unfold Ce.v Ce.cs at hF ⊢
    refine AFn.intro (fn := Try.f94) (by kernel_rfl) rfl (by kernel_rfl) (by simp) (AW.ofx [] mixed (by kernel_rfl) ?_)
    simp only [Try.f94, argsF]
    simp
    refine callK.pure hF rfl rfl ?_
    cases h1 : rightC c
    · simp [codeR, h1]
    have h := rightC_iff.1 h1
    have hne : c.l ≠ 0 := by omega
    have hne' : (c.l == 0) = false := by simpa using hne
    have hb := two_le h.1.2
    have hrec := ih ⟨c.l - 1, c.x / 2, c.y / 2⟩ (by simp; omega)
    obtain ⟨s1, s2⟩ := codeR_step h1 hne
    have hl := codeR_le ⟨c.l - 1, c.x / 2, c.y / 2⟩
    have hg := codeR_ge ⟨c.l - 1, c.x / 2, c.y / 2⟩
    rw [s2, codeR_two h1]
    rw [codeR_two s1] at hrec
    generalize ((codeR ⟨c.l - 1, c.x / 2, c.y / 2⟩).1 : Int) = up at *
    clear s1 s2
    have q1 := Int.emod_nonneg c.x (b := 2) (by decide)
    have q2 := Int.emod_lt_of_pos c.x (b := 2) (by decide)
    have q3 := Int.emod_nonneg c.y (b := 2) (by decide)
    have q4 := Int.emod_lt_of_pos c.y (b := 2) (by decide)
    have w1 : IntKind.i64.wrap (c.l - 1) = c.l - 1 := by rw [wrap_i64] <;> omega
    have w2 : IntKind.i64.wrap (c.x.tdiv 2) = c.x / 2 := by rw [Int.tdiv_eq_ediv_of_nonneg (by omega), wrap_i64] <;> omega
    have w3 : IntKind.i64.wrap (c.y.tdiv 2) = c.y / 2 := by rw [Int.tdiv_eq_ediv_of_nonneg (by omega), wrap_i64] <;> omega
    unfold Ce.v Ce.cs at hrec
    simp [hne', w1, w2, w3, binR_quo]
    refine callK.pure hrec rfl rfl ?_
    have w4 : IntKind.u64.wrap (4 * up) = 4 * up := by rw [wrap_u64] <;> omega
    have t1 : c.y.tmod 2 = c.y % 2 := Int.tmod_eq_emod_of_nonneg (by omega)
    have t2 : c.x.tmod 2 = c.x % 2 := Int.tmod_eq_emod_of_nonneg (by omega)
    have w5 : IntKind.i64.wrap (2 * (c.y % 2)) = 2 * (c.y % 2) := by rw [wrap_i64] <;> omega
    have w6 : IntKind.i64.wrap (2 * (c.y % 2) + c.x % 2) = 2 * (c.y % 2) + c.x % 2 := by rw [wrap_i64] <;> omega
    have w7 : IntKind.u64.wrap (2 * (c.y % 2) + c.x % 2) = 2 * (c.y % 2) + c.x % 2 := by rw [wrap_u64] <;> omega
    have w8 : IntKind.u64.wrap (4 * up + (2 * (c.y % 2) + c.x % 2)) = 4 * up + (2 * (c.y % 2) + c.x % 2) := by rw [wrap_u64] <;> omega
    simp [binR_rem, toU64, t1, t2, w4, w5, w6, w7, w8]
theorem refCode' (c : Ce) : PFn Try.prog 94 [c.v] (.tup [.sc (.int .u64 (codeR c).1), .sc (.bool (codeR c).2)]) := refCode _ c rfl
/-- A point's code. -/
def pcode (p : Pt) : Nat := (codeR ⟨16, p.x, p.y⟩).1
theorem refPcode (p : Pt) : PFn Try.prog 67 [p.v] (.sc (.int .u64 (pcode p))) := by
  have hF := refCode' ⟨16, p.x, p.y⟩
  unfold Ce.v Ce.cs at hF
  unfold Pt.v Pt.cs
  refine AFn.intro (fn := Try.f67) (by kernel_rfl) rfl (by kernel_rfl) (by simp) (AW.ofx [] mixed (by kernel_rfl) ?_)
  simp only [Try.f67, argsF]
  simp
  refine callK.pure hF rfl rfl ?_
  simp [pcode]
theorem shl_two {l : Int} (h : 0 ≤ l) (h' : l ≤ 16) : shlI .i64 1 l = two l := by
  obtain ⟨n, rfl⟩ := Int.eq_ofNat_of_zero_le h
  have := Nat.pow_le_pow_right (n := 2) (by decide) (show n ≤ 16 by omega)
  have e : 2 ^ 16 = 65536 := by decide
  have := shlI_i64 1 n (by omega) (by omega)
  simpa [two] using this
theorem cRightC (c : Ce) : PFn Try.prog 87 [c.v] (.sc (.bool (rightC c))) := by
  unfold Ce.v Ce.cs
  refine AFn.intro (fn := Try.f87) (by kernel_rfl) rfl (by kernel_rfl) (by simp) (AW.ofx [] mixed (by kernel_rfl) ?_)
  simp only [Try.f87, argsF]
  simp
  refine callK.pure (cright _) rfl rfl ?_
  cases h1 : rightL c.l
  · simp [rightC, h1]
  have h := rightL_iff.1 h1
  have hn : ¬ c.l < 0 := by omega
  simp [binR_shl, hn, shl_two h.1 h.2]
  simp [gd, rightC, h1]
  grind
theorem cShift (l : Int) (h : 0 ≤ l) (h' : l ≤ 16) : PFn Try.prog 140 [.sc (.int .i64 l)] (.sc (.int .i64 (16 - l))) := by
  refine AFn.intro (fn := Try.f140) (by kernel_rfl) rfl (by kernel_rfl) (by simp) (AW.ofx [] mixed (by kernel_rfl) ?_)
  simp only [Try.f140, argsF]
  have w1 : IntKind.i64.wrap (16 - l) = 16 - l := by rw [wrap_i64] <;> omega
  simp [w1]
theorem shr_side {l : Int} (h : 0 ≤ l) (h' : l ≤ 16) {n : Int} (hn : 0 ≤ n) : shrI .i64 n (16 - l) = n / side l := by
  obtain ⟨k, rfl⟩ := Int.eq_ofNat_of_zero_le h
  obtain ⟨m, rfl⟩ := Int.eq_ofNat_of_zero_le hn
  have e : 16 - (k : Int) = ((16 - k : Nat) : Int) := by omega
  unfold side
  rw [e, shrI_nat _ _ (by show 16 - k ≤ 64; omega), two_nat]
  exact Int.natCast_ediv m (2 ^ (16 - k))
theorem cDown (l n : Int) (h : 0 ≤ l) (h' : l ≤ 16) (hn : 0 ≤ n) : PFn Try.prog 126 [.sc (.int .i64 l), .sc (.int .i64 n)] (.sc (.int .i64 (n / side l))) := by
  refine AFn.intro (fn := Try.f126) (by kernel_rfl) rfl (by kernel_rfl) (by simp) (AW.ofx [] mixed (by kernel_rfl) ?_)
  simp only [Try.f126, argsF]
  simp
  refine callK.pure (cShift l h h') rfl rfl ?_
  have : ¬ 16 - l < 0 := by omega
  simp [binR_shr, this, shr_side h h' hn]
/-- Two numbers, each turned by a function. -/
theorem cPair (x y x' y' : Int) (f : FuncId) (l : Int) (h1 : PFn Try.prog f [.sc (.int .i64 l), .sc (.int .i64 x)] (.sc (.int .i64 x'))) (h2 : PFn Try.prog f [.sc (.int .i64 l), .sc (.int .i64 y)] (.sc (.int .i64 y'))) :
    PFn Try.prog 125 [.sc (.int .i64 x), .sc (.int .i64 y), .fn (.func f) [.sc (.int .i64 l)] []] (.tup [.sc (.int .i64 x'), .sc (.int .i64 y')]) := by
  refine AFn.intro (fn := Try.f125) (by kernel_rfl) rfl (by kernel_rfl) (by simp) (AW.ofx [] mixed (by kernel_rfl) ?_)
  simp only [Try.f125, argsF]
  simp
  refine callK.pure h1 rfl rfl ?_
  simp
  refine callK.pure h2 rfl rfl ?_
  simp
theorem cof (p : Pt) (l : Int) (h : 0 ≤ l) (h' : l ≤ 16) (hx : 0 ≤ p.x) (hy : 0 ≤ p.y) : PFn Try.prog 95 [p.v, .sc (.int .i64 l)] (cellOf p l).v := by
  unfold Pt.v Pt.cs
  refine AFn.intro (fn := Try.f95) (by kernel_rfl) rfl (by kernel_rfl) (by simp) (AW.ofx [] mixed (by kernel_rfl) ?_)
  simp only [Try.f95, argsF]
  simp
  refine callK.pure (cPair _ _ _ _ _ _ (cDown l p.x h h' hx) (cDown l p.y h h' hy)) rfl rfl ?_
  simp [setCells, setBlk, cellOf, Ce.v, Ce.cs]
theorem cOf (p : Pt) (l : Int) : PFn Try.prog 68 [p.v, .sc (.int .i64 l)] (.tup [(ofR p l).1.v, .sc (.bool (ofR p l).2)]) := by
  have hF := gFits p
  have hO := cof p l
  unfold Pt.v Pt.cs at hF hO ⊢
  refine AFn.intro (fn := Try.f68) (by kernel_rfl) rfl (by kernel_rfl) (by simp) (AW.ofx [] mixed (by kernel_rfl) ?_)
  simp only [Try.f68, argsF]
  simp
  refine callK.pure (cright _) rfl rfl ?_
  cases h1 : rightL l
  · simp [setCells, setBlk, ofR, h1, Ce.v, Ce.cs, Ce.zero]
  simp
  refine callK.pure hF rfl rfl ?_
  cases h2 : fits p
  · simp [setCells, setBlk, ofR, h1, h2, Ce.v, Ce.cs, Ce.zero]
  have h := rightL_iff.1 h1
  have h3 := fits_iff.1 h2
  simp
  refine callK.pure (hO h.1 h.2 h3.1.1 h3.2.1) rfl rfl ?_
  simp [setCells, setBlk, ofR, h1, h2, Ce.v, Ce.cs]
end Go.Proofs.Ytoooldijnilpaaa
