/- Cells and boxes: the program and the document. -/
import Derived.Test.YtmjnffjacgjfmaaGa
namespace Go.Proofs.Ytmjnffjacgjfmaa
set_option linter.all false
open Go.RowKit AM
set_option maxRecDepth 10000
attribute [local simp] aw_skip' aw_region' aw_seq' aw_cond' aw_block' aw_loop' aw_exit' aw_label' aw_ret' aops_nil' aops_cons' aop' aMove aAssign aPick aAlloc aBox aBuild slF aBuildSlice aLoad aLoadOwn aLoadS sharesAt shares sharedV aStore aStoreOwn isOwn delR aNilCheck aBin aMakeFunc aFieldAddr aField aIndexOp aIndex partV aIndexAddr aExtract aSliceOp aSlice slV aShrink aCallOp aCall' aInvoke' aLen aLenMap aDelete aMM aUn aConv aIface aAssert aMakeMap aLookup aMapUpdate aRange aNext aEntry entsOf keyB seekK aMakeSlice lookV aApp aAppendB aAppendF aAppend putK layK eval evalV AM.valOf getF putF setF del SV.refers cellsAt rootSV plains shift ldV V.exact V.exactL V.ofValue V.ofPart V.ofCell V.cells V.one Value.oneCell' fitB qSeq qBlock getB afin aret resVs resV resTmps shareF evalS tupV valsS valsV pickV calm calmB lenV useOf feeds shrinks stows looks isT newsV partsV fillV putAt zerosV fitsNil nilB sliceB isEq isNeq awx_skip' awx_region' awx_seq' awx_cond' awx_block' awx_loop' awx_exit' awx_label' awx_ret' xops_nil' xops_cons' xop' xload xcall' addO delO inO putD memB Mix.effB Mix.laysB keysF badK subW weakV zeroRow yops_nil' yops_cons' yop' yload yindex yfield ylen oldO dropO takeO oldL exactB V.fixed V.fixedL

theorem rightL_iff {l : Int} : rightL l = true ↔ 0 ≤ l ∧ l ≤ 16 := by simp [rightL]
theorem fits_iff {p : Pt} : fits p = true ↔ (0 ≤ p.x ∧ p.x ≤ 65535) ∧ 0 ≤ p.y ∧ p.y ≤ 65535 := by simp [fits, inside]
theorem refRightC (c : Ce) : PFn Try.prog 75 [c.v] (.sc (.bool (rightC c))) := by
  unfold Ce.v Ce.cs
  refine AFn.intro (fn := Try.f75) (by kernel_rfl) rfl (by kernel_rfl) (by simp) (AW.ofx [(1, 27, [1])] mixed (by kernel_rfl) ?_)
  simp only [Try.f75, argsF]
  simp
  refine callK.pure (refLevel _) rfl rfl ?_
  cases h1 : rightL c.l
  · simp [rightC, h1]
  have h := rightL_iff.1 h1
  simp
  refine gd.intro (fun e => ?_) (fun e => ?_)
  rotate_left
  · simp at e
    simp [rightC, h1]
    omega
  try simp
  refine gd.intro (fun e2 => ?_) (fun e2 => ?_)
  rotate_left
  · simp at e2
    simp [rightC, h1]
    omega
  try simp
  refine callK.pure (refTwo _ h.2) rfl rfl ?_
  try simp
  refine gd.intro (fun e3 => ?_) (fun e3 => ?_)
  rotate_left
  · simp at e3
    simp [rightC, h1]
    omega
  try simp
  refine callK.pure (refTwo _ h.2) rfl rfl ?_
  simp at e e2 e3
  simp [rightC, h1, e, e2, e3]
theorem side_pos (l : Int) : 0 < side l := two_pos _
theorem side_le {l : Int} (h : 0 ≤ l) : side l ≤ 65536 := two_le (by omega)
theorem div_le' {a b : Int} (h : 0 ≤ a) (hb : 0 < b) : 0 ≤ a / b ∧ a / b ≤ a := ⟨Int.ediv_nonneg h (by omega), by
  have := Int.ediv_le_self b h
  exact this⟩
theorem refOf (p : Pt) (l : Int) : PFn Try.prog 62 [p.v, .sc (.int .i64 l)] (.tup [(ofR p l).1.v, .sc (.bool (ofR p l).2)]) := by
  have hF := refFits p
  unfold Pt.v Pt.cs at hF ⊢
  refine AFn.intro (fn := Try.f62) (by kernel_rfl) rfl (by kernel_rfl) (by simp) (AW.ofx [(3, 11, [1, 2])] mixed (by kernel_rfl) ?_)
  simp only [Try.f62, argsF]
  simp
  refine callK.pure (refLevel _) rfl rfl ?_
  cases h1 : rightL l
  · simp [setCells, setBlk, ofR, h1, Ce.v, Ce.cs, Ce.zero]
  simp
  refine callK.pure hF rfl rfl ?_
  cases h2 : fits p
  · simp [setCells, setBlk, ofR, h1, h2, Ce.v, Ce.cs, Ce.zero]
  have h := rightL_iff.1 h1
  have h3 := fits_iff.1 h2
  have hp := side_pos l
  have hne : side l ≠ 0 := by omega
  simp
  refine callK.pure (refSide l h.1 h.2) rfl rfl ?_
  simp [binR_quo, hne]
  refine callK.pure (refSide l h.1 h.2) rfl rfl ?_
  have q1 := div_le' h3.1.1 hp
  have q2 := div_le' h3.2.1 hp
  have w1 : IntKind.i64.wrap (p.x.tdiv (side l)) = p.x / side l := by rw [Int.tdiv_eq_ediv_of_nonneg h3.1.1, wrap_i64] <;> omega
  have w2 : IntKind.i64.wrap (p.y.tdiv (side l)) = p.y / side l := by rw [Int.tdiv_eq_ediv_of_nonneg h3.2.1, wrap_i64] <;> omega
  simp [binR_quo, hne, w1, w2, setCells, setBlk, ofR, h1, h2, Ce.v, Ce.cs, cellOf]
theorem rightC_iff {c : Ce} : rightC c = true ↔ (0 ≤ c.l ∧ c.l ≤ 16) ∧ 0 ≤ c.x ∧ 0 ≤ c.y ∧ c.x < two c.l ∧ c.y < two c.l := by
  simp [rightC, rightL]
  grind
theorem two_mul {a b : Int} (ha : 0 ≤ a) (hb : 0 ≤ b) : two (a + b) = two a * two b := by
  obtain ⟨m, rfl⟩ := Int.eq_ofNat_of_zero_le ha
  obtain ⟨n, rfl⟩ := Int.eq_ofNat_of_zero_le hb
  unfold two
  rw [← Int.pow_add]
  congr 1
theorem box_le {c : Ce} (h : rightC c = true) : (0 ≤ side c.l * c.x ∧ side c.l * c.x + side c.l ≤ 65536) ∧ 0 ≤ side c.l * c.y ∧ side c.l * c.y + side c.l ≤ 65536 := by
  obtain ⟨h1, h2, h3, h4, h5⟩ := rightC_iff.1 h
  have hs := side_pos c.l
  have e : side c.l * two c.l = 65536 := by
    unfold side
    rw [← two_mul (by omega) h1.1, show 16 - c.l + c.l = 16 by omega]
    decide
  have k1 : side c.l * (c.x + 1) ≤ side c.l * two c.l := Int.mul_le_mul_of_nonneg_left (by omega) (by omega)
  have k2 : side c.l * (c.y + 1) ≤ side c.l * two c.l := Int.mul_le_mul_of_nonneg_left (by omega) (by omega)
  have k3 := Int.mul_nonneg (a := side c.l) (b := c.x) (by omega) h2
  have k4 := Int.mul_nonneg (a := side c.l) (b := c.y) (by omega) h3
  rw [Int.mul_add] at k1 k2
  omega
theorem refBox (c : Ce) : PFn Try.prog 57 [c.v] (.tup [(boxR c).1.v, .sc (.bool (boxR c).2)]) := by
  have hF := refRightC c
  unfold Ce.v Ce.cs at hF ⊢
  refine AFn.intro (fn := Try.f57) (by kernel_rfl) rfl (by kernel_rfl) (by simp) (AW.ofx [] mixed (by kernel_rfl) ?_)
  simp only [Try.f57, argsF]
  simp
  refine callK.pure hF rfl rfl ?_
  cases h1 : rightC c
  · simp [setCells, setBlk, boxR, h1, Re.v, Re.cs, Re.zero]
  have h := rightC_iff.1 h1
  have hb := box_le h1
  have hp := side_pos c.l
  simp
  refine callK.pure (refSide c.l h.1.1 h.1.2) rfl rfl ?_
  have w1 : IntKind.i64.wrap (side c.l * c.x) = side c.l * c.x := by rw [wrap_i64] <;> omega
  have w2 : IntKind.i64.wrap (side c.l * c.y) = side c.l * c.y := by rw [wrap_i64] <;> omega
  have w3 : IntKind.i64.wrap (side c.l * c.x + side c.l) = side c.l * c.x + side c.l := by rw [wrap_i64] <;> omega
  have w4 : IntKind.i64.wrap (side c.l * c.y + side c.l) = side c.l * c.y + side c.l := by rw [wrap_i64] <;> omega
  have w5 : IntKind.i64.wrap (side c.l * c.x + side c.l - 1) = side c.l * c.x + side c.l - 1 := by rw [wrap_i64] <;> omega
  have w6 : IntKind.i64.wrap (side c.l * c.y + side c.l - 1) = side c.l * c.y + side c.l - 1 := by rw [wrap_i64] <;> omega
  simp [w1, w2, w3, w4, w5, w6, setCells, setBlk, boxR, h1, Re.v, Re.cs, boxOf]
theorem refChild (c : Ce) (i : Int) : PFn Try.prog 56 [c.v, .sc (.int .i64 i)] (.tup [(childR c i).1.v, .sc (.bool (childR c i).2)]) := by
  have hF := refRightC c
  unfold Ce.v Ce.cs at hF ⊢
  refine AFn.intro (fn := Try.f56) (by kernel_rfl) rfl (by kernel_rfl) (by simp) (AW.ofx [] mixed (by kernel_rfl) ?_)
  simp only [Try.f56, argsF]
  simp
  refine callK.pure hF rfl rfl ?_
  cases h1 : rightC c
  · simp [setCells, setBlk, childR, h1, Ce.v, Ce.cs, Ce.zero]
  have h := rightC_iff.1 h1
  have hb := two_le h.1.2
  simp
  by_cases h2 : c.l = 16
  · simp [setCells, setBlk, childR, h1, h2, Ce.v, Ce.cs, Ce.zero]
  have h2' : (c.l == 16) = false := by simpa using h2
  simp [h2']
  by_cases h3 : i < 0
  · have : ¬ 0 ≤ i := by omega
    simp [setCells, setBlk, childR, h1, h2, h3, this, Ce.v, Ce.cs, Ce.zero]
  simp [h3]
  by_cases h4 : 3 < i
  · have : ¬ i ≤ 3 := by omega
    simp [setCells, setBlk, childR, h1, h2, h4, this, Ce.v, Ce.cs, Ce.zero]
  have h5 : 0 ≤ i ∧ i ≤ 3 := by omega
  have m1 := Int.emod_nonneg i (b := 2) (by decide)
  have m2 := Int.emod_lt_of_pos i (b := 2) (by decide)
  have w1 : IntKind.i64.wrap (c.l + 1) = c.l + 1 := by rw [wrap_i64] <;> omega
  have w2 : IntKind.i64.wrap (2 * c.x) = 2 * c.x := by rw [wrap_i64] <;> omega
  have w3 : IntKind.i64.wrap (2 * c.y) = 2 * c.y := by rw [wrap_i64] <;> omega
  have w4 : i.tmod 2 = i % 2 := Int.tmod_eq_emod_of_nonneg h5.1
  have w5 : IntKind.i64.wrap (i.tdiv 2) = i / 2 := by rw [Int.tdiv_eq_ediv_of_nonneg h5.1, wrap_i64] <;> omega
  have w6 : IntKind.i64.wrap (2 * c.x + i % 2) = 2 * c.x + i % 2 := by rw [wrap_i64] <;> omega
  have w7 : IntKind.i64.wrap (2 * c.y + i / 2) = 2 * c.y + i / 2 := by rw [wrap_i64] <;> omega
  simp [h4, binR_quo, binR_rem, w1, w2, w3, w4, w5, w6, w7, setCells, setBlk, childR, h1, h2, h5, Ce.v, Ce.cs]
end Go.Proofs.Ytmjnffjacgjfmaa
namespace Go.Proofs.Ytmjnffjacgjfmaa
set_option linter.all false
open Go.RowKit AM
set_option maxRecDepth 10000
attribute [local simp] aw_skip' aw_region' aw_seq' aw_cond' aw_block' aw_loop' aw_exit' aw_label' aw_ret' aops_nil' aops_cons' aop' aMove aAssign aPick aAlloc aBox aBuild slF aBuildSlice aLoad aLoadOwn aLoadS sharesAt shares sharedV aStore aStoreOwn isOwn delR aNilCheck aBin aMakeFunc aFieldAddr aField aIndexOp aIndex partV aIndexAddr aExtract aSliceOp aSlice slV aShrink aCallOp aCall' aInvoke' aLen aLenMap aDelete aMM aUn aConv aIface aAssert aMakeMap aLookup aMapUpdate aRange aNext aEntry entsOf keyB seekK aMakeSlice lookV aApp aAppendB aAppendF aAppend putK layK eval evalV AM.valOf getF putF setF del SV.refers cellsAt rootSV plains shift ldV V.exact V.exactL V.ofValue V.ofPart V.ofCell V.cells V.one Value.oneCell' fitB qSeq qBlock getB afin aret resVs resV resTmps shareF evalS tupV valsS valsV pickV calm calmB lenV useOf feeds shrinks stows looks isT newsV partsV fillV putAt zerosV fitsNil nilB sliceB isEq isNeq awx_skip' awx_region' awx_seq' awx_cond' awx_block' awx_loop' awx_exit' awx_label' awx_ret' xops_nil' xops_cons' xop' xload xcall' addO delO inO putD memB Mix.effB Mix.laysB keysF badK subW weakV zeroRow yops_nil' yops_cons' yop' yload yindex yfield ylen oldO dropO takeO oldL exactB V.fixed V.fixedL

theorem toU64 (z : Int) : convR Try.prog 3 79 (.int .i64 z) = some (.int .u64 (IntKind.u64.wrap z)) := convR_int Ty.u3 Ty.u79
theorem toI64 (z : Int) : convR Try.prog 79 3 (.int .u64 z) = some (.int .i64 (IntKind.i64.wrap z)) := convR_int Ty.u79 Ty.u3
/-- A cell that may be, in natural numbers. -/
theorem rightC_nat {c : Ce} (h : rightC c = true) : ∃ n x y : Nat, c = ⟨n, x, y⟩ ∧ n ≤ 16 ∧ x < 2 ^ n ∧ y < 2 ^ n := by
  obtain ⟨h1, h2, h3, h4, h5⟩ := rightC_iff.1 h
  obtain ⟨n, hn⟩ := Int.eq_ofNat_of_zero_le h1.1
  obtain ⟨x, hx⟩ := Int.eq_ofNat_of_zero_le h2
  obtain ⟨y, hy⟩ := Int.eq_ofNat_of_zero_le h3
  obtain ⟨l, cx, cy⟩ := c
  simp only at *
  subst hn hx hy
  rw [two_nat] at h4 h5
  exact ⟨n, x, y, rfl, by omega, by omega, by omega⟩
theorem rightC_of {n x y : Nat} (h : n ≤ 16) (hx : x < 2 ^ n) (hy : y < 2 ^ n) : rightC ⟨n, x, y⟩ = true := by
  rw [rightC_iff]
  simp only [two_nat]
  omega
theorem codeR_nat {n x y : Nat} (h : n ≤ 16) (hx : x < 2 ^ n) (hy : y < 2 ^ n) : codeR ⟨n, x, y⟩ = (mort n x y, true) := by
  unfold codeR
  rw [rightC_of h hx hy]
  simp
theorem mort_le {n : Nat} (h : n ≤ 16) (x y : Nat) : mort n x y < 4294967296 := by
  have := mort_lt n x y
  have h2 := Nat.pow_le_pow_right (n := 4) (by decide) h
  have : 4 ^ 16 = 4294967296 := by decide
  omega
theorem codeR_le (c : Ce) : ((codeR c).1 : Int) < 4294967296 := by
  unfold codeR
  split
  · rename_i h
    obtain ⟨n, x, y, rfl, h1, _, _⟩ := rightC_nat h
    have := mort_le h1 x y
    simp
    omega
  · simp
theorem codeR_ge (c : Ce) : (0 : Int) ≤ ((codeR c).1 : Int) := by omega
theorem codeR_two {c : Ce} (h : rightC c = true) : (codeR c).2 = true := by simp [codeR, h]
theorem codeR_step {c : Ce} (h : rightC c = true) (h0 : c.l ≠ 0) : rightC ⟨c.l - 1, c.x / 2, c.y / 2⟩ = true ∧ ((codeR c).1 : Int) = 4 * ((codeR ⟨c.l - 1, c.x / 2, c.y / 2⟩).1 : Int) + (2 * (c.y % 2) + c.x % 2) := by
  obtain ⟨n, x, y, rfl, h1, h2, h3⟩ := rightC_nat h
  obtain ⟨m, rfl⟩ : ∃ m, n = m + 1 := ⟨n - 1, by simp at h0; omega⟩
  have e : (⟨((m + 1 : Nat) : Int) - 1, (x : Int) / 2, (y : Int) / 2⟩ : Ce) = ⟨(m : Nat), ((x / 2 : Nat) : Int), ((y / 2 : Nat) : Int)⟩ := by simp
  simp only
  rw [Nat.pow_succ] at h2 h3
  rw [e, codeR_nat (n := m) (by omega) (by omega) (by omega), codeR_nat (n := m + 1) h1 (by rw [Nat.pow_succ]; omega) (by rw [Nat.pow_succ]; omega), mort_succ]
  refine ⟨rightC_of (by omega) (by omega) (by omega), ?_⟩
  simp
/-- A point's code. -/
def pcode (p : Pt) : Nat := (codeR ⟨16, p.x, p.y⟩).1
theorem shl_two {l : Int} (h : 0 ≤ l) (h' : l ≤ 16) : shlI .i64 1 l = two l := by
  obtain ⟨n, rfl⟩ := Int.eq_ofNat_of_zero_le h
  have := Nat.pow_le_pow_right (n := 2) (by decide) (show n ≤ 16 by omega)
  have e : 2 ^ 16 = 65536 := by decide
  have := shlI_i64 1 n (by omega) (by omega)
  simpa [two] using this
theorem cRightC (c : Ce) : PFn Try.prog 88 [c.v] (.sc (.bool (rightC c))) := by
  unfold Ce.v Ce.cs
  refine AFn.intro (fn := Try.f88) (by kernel_rfl) rfl (by kernel_rfl) (by simp) (AW.ofx [] mixed (by kernel_rfl) ?_)
  simp only [Try.f88, argsF]
  simp
  refine callK.pure (cright _) rfl rfl ?_
  cases h1 : rightL c.l
  · simp [rightC, h1]
  have h := rightL_iff.1 h1
  have hn : ¬ c.l < 0 := by omega
  simp [binR_shl, hn, shl_two h.1 h.2]
  simp [gd, rightC, h1]
  grind
theorem cShift (l : Int) (h : 0 ≤ l) (h' : l ≤ 16) : PFn Try.prog 104 [.sc (.int .i64 l)] (.sc (.int .i64 (16 - l))) := by
  refine AFn.intro (fn := Try.f104) (by kernel_rfl) rfl (by kernel_rfl) (by simp) (AW.ofx [] mixed (by kernel_rfl) ?_)
  simp only [Try.f104, argsF]
  have w1 : IntKind.i64.wrap (16 - l) = 16 - l := by rw [wrap_i64] <;> omega
  simp [w1]
theorem shr_side {l : Int} (h : 0 ≤ l) (h' : l ≤ 16) {n : Int} (hn : 0 ≤ n) : shrI .i64 n (16 - l) = n / side l := by
  obtain ⟨k, rfl⟩ := Int.eq_ofNat_of_zero_le h
  obtain ⟨m, rfl⟩ := Int.eq_ofNat_of_zero_le hn
  have e : 16 - (k : Int) = ((16 - k : Nat) : Int) := by omega
  unfold side
  rw [e, shrI_nat _ _ (by show 16 - k ≤ 64; omega), two_nat]
  exact Int.natCast_ediv m (2 ^ (16 - k))
theorem cDown (l n : Int) (h : 0 ≤ l) (h' : l ≤ 16) (hn : 0 ≤ n) : PFn Try.prog 126 [.sc (.int .i64 l), .sc (.int .i64 n)] (.sc (.int .i64 (n / side l))) := by
  refine AFn.intro (fn := Try.f126) (by kernel_rfl) rfl (by kernel_rfl) (by simp) (AW.ofx [] mixed (by kernel_rfl) ?_)
  simp only [Try.f126, argsF]
  simp
  refine callK.pure (cShift l h h') rfl rfl ?_
  have : ¬ 16 - l < 0 := by omega
  simp [binR_shr, this, shr_side h h' hn]
/-- Two numbers, each turned by a function. -/
theorem cPair (x y x' y' : Int) (f : FuncId) (l : Int) (h1 : PFn Try.prog f [.sc (.int .i64 l), .sc (.int .i64 x)] (.sc (.int .i64 x'))) (h2 : PFn Try.prog f [.sc (.int .i64 l), .sc (.int .i64 y)] (.sc (.int .i64 y'))) :
    PFn Try.prog 89 [.sc (.int .i64 x), .sc (.int .i64 y), .fn (.func f) [.sc (.int .i64 l)] []] (.tup [.sc (.int .i64 x'), .sc (.int .i64 y')]) := by
  refine AFn.intro (fn := Try.f89) (by kernel_rfl) rfl (by kernel_rfl) (by simp) (AW.ofx [] mixed (by kernel_rfl) ?_)
  simp only [Try.f89, argsF]
  simp
  refine callK.pure h1 rfl rfl ?_
  simp
  refine callK.pure h2 rfl rfl ?_
  simp
theorem cof (p : Pt) (l : Int) (h : 0 ≤ l) (h' : l ≤ 16) (hx : 0 ≤ p.x) (hy : 0 ≤ p.y) : PFn Try.prog 103 [p.v, .sc (.int .i64 l)] (cellOf p l).v := by
  unfold Pt.v Pt.cs
  refine AFn.intro (fn := Try.f103) (by kernel_rfl) rfl (by kernel_rfl) (by simp) (AW.ofx [] mixed (by kernel_rfl) ?_)
  simp only [Try.f103, argsF]
  simp
  refine callK.pure (cPair _ _ _ _ _ _ (cDown l p.x h h' hx) (cDown l p.y h h' hy)) rfl rfl ?_
  simp [setCells, setBlk, cellOf, Ce.v, Ce.cs]
theorem cOf (p : Pt) (l : Int) : PFn Try.prog 81 [p.v, .sc (.int .i64 l)] (.tup [(ofR p l).1.v, .sc (.bool (ofR p l).2)]) := by
  have hF := gFits p
  have hO := cof p l
  unfold Pt.v Pt.cs at hF hO ⊢
  refine AFn.intro (fn := Try.f81) (by kernel_rfl) rfl (by kernel_rfl) (by simp) (AW.ofx [] mixed (by kernel_rfl) ?_)
  simp only [Try.f81, argsF]
  simp
  refine callK.pure (cright _) rfl rfl ?_
  cases h1 : rightL l
  · simp [setCells, setBlk, ofR, h1, Ce.v, Ce.cs, Ce.zero]
  simp
  refine callK.pure hF rfl rfl ?_
  cases h2 : fits p
  · simp [setCells, setBlk, ofR, h1, h2, Ce.v, Ce.cs, Ce.zero]
  have h := rightL_iff.1 h1
  have h3 := fits_iff.1 h2
  simp
  refine callK.pure (hO h.1 h.2 h3.1.1 h3.2.1) rfl rfl ?_
  simp [setCells, setBlk, ofR, h1, h2, Ce.v, Ce.cs]
end Go.Proofs.Ytmjnffjacgjfmaa
