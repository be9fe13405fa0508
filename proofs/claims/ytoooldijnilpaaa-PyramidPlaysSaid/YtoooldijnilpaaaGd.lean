/- Codes of cells, and cells of codes, as the program reckons them. -/
import Derived.Test.YtoooldijnilpaaaGc
namespace Go.Proofs.Ytoooldijnilpaaa
set_option linter.all false
open Go.RowKit AM
set_option maxRecDepth 10000
attribute [local simp] aw_skip' aw_region' aw_seq' aw_cond' aw_block' aw_loop' aw_exit' aw_label' aw_ret' aops_nil' aops_cons' aop' aMove aAssign aPick aAlloc aBox aBuild aBuildSlice aLoad aLoadOwn aStore aStoreOwn isOwn delR aNilCheck aBin aMakeFunc aFieldAddr aField aIndexAddr aExtract aSliceOp aSlice aCallOp aCall' aLen aLenMap aDelete aMM aUn aConv aIface aAssert aMakeMap aLookup aMapUpdate aRange aNext aEntry entsOf keyB lookV aAppend putK layK eval evalV AM.valOf getF putF setF del SV.refers cellsAt rootSV plains shift ldV V.exact V.exactL V.ofValue V.ofPart V.ofCell V.cells V.one Value.oneCell' fitB qSeq qBlock getB afin aret resVs resV resTmps shareF evalS tupV valsS valsV pickV calm calmB lenV useOf feeds looks isT newsV partsV fillV putAt zerosV fitsNil nilB isEq isNeq awx_skip' awx_region' awx_seq' awx_cond' awx_block' awx_loop' awx_exit' awx_label' awx_ret' xops_nil' xops_cons' xop' xload xcall' addO delO inO putD memB Mix.effB Mix.laysB keysF badK subW weakV zeroRow yops_nil' yops_cons' yop' yload yindex yfield ylen oldO dropO takeO oldL exactB

theorem shl_four {z : Int} (h : 0 ≤ z) (h' : z < 4294967296) : shlI .u64 z 2 = 4 * z := by
  obtain ⟨n, rfl⟩ := Int.eq_ofNat_of_zero_le h
  have := shlI_u64 n 2 (by omega) (by omega)
  rw [show ((2 : Nat) : Int) = 2 by rfl] at this
  rw [this]
  omega
theorem shl_one {z : Int} (h : 0 ≤ z) (h' : z < 4294967296) : shlI .u64 z 1 = 2 * z := by
  obtain ⟨n, rfl⟩ := Int.eq_ofNat_of_zero_le h
  have := shlI_u64 n 1 (by omega) (by omega)
  rw [show ((1 : Nat) : Int) = 1 by rfl] at this
  rw [this]
  omega
theorem shr_div {k : IntKind} {y i : Int} (hk : k = .i64 ∨ k = .u64) (h : 0 ≤ y) (hi : 0 ≤ i) (h' : i ≤ 64) : shrI k y i = y / 2 ^ i.toNat := by
  obtain ⟨n, rfl⟩ := Int.eq_ofNat_of_zero_le h
  obtain ⟨m, rfl⟩ := Int.eq_ofNat_of_zero_le hi
  rw [shrI_nat _ _ (by rcases hk with rfl | rfl <;> (show m ≤ 64; omega))]
  simp
theorem and_one {k : IntKind} (hk : k = .i64 ∨ k = .u64) {z : Int} (h : 0 ≤ z) (h' : z ≤ 9223372036854775807) : andI k z 1 = z % 2 := by
  obtain ⟨n, rfl⟩ := Int.eq_ofNat_of_zero_le h
  have := andI_nat (k := k) n 1 hk (by omega) (by omega)
  rw [show ((1 : Nat) : Int) = 1 by rfl] at this
  rw [this, Nat.and_one_is_mod]
  omega
theorem or_low {k : IntKind} (hk : k = .i64 ∨ k = .u64) {a b : Int} (n : Nat) (ha : 0 ≤ a) (hb : 0 ≤ b) (hb' : b < 2 ^ n) (h : 2 ^ n * a + b < 9223372036854775808) : orI k (2 ^ n * a) b = 2 ^ n * a + b := by
  obtain ⟨x, rfl⟩ := Int.eq_ofNat_of_zero_le ha
  obtain ⟨y, rfl⟩ := Int.eq_ofNat_of_zero_le hb
  have e : (2 : Int) ^ n * (x : Int) = ((2 ^ n * x : Nat) : Int) := by simp
  have e2 : (2 : Int) ^ n = ((2 ^ n : Nat) : Int) := by simp
  rw [e] at h ⊢
  rw [e2] at hb'
  have := orI_nat (k := k) (2 ^ n * x) y hk (by omega) (by omega)
  rw [this, ← Nat.two_pow_add_eq_or_of_lt (by omega)]
  omega
/-- What a round of Code makes of what stands there. -/
theorem code_round {z a b : Int} (hz : 0 ≤ z) (hz' : z < 1073741824) (ha : 0 ≤ a) (ha' : a < 2) (hb : 0 ≤ b) (hb' : b < 2) : orI .u64 (orI .u64 (4 * z) (2 * b)) a = 4 * z + (2 * b + a) := by
  have h1 := or_low (k := .u64) (.inr rfl) (a := z) (b := 2 * b) 2 hz (by omega) (by omega) (by omega)
  rw [show (2 : Int) ^ 2 = 4 by decide] at h1
  have h2 := or_low (k := .u64) (.inr rfl) (a := 2 * z + b) (b := a) 1 (by omega) ha (by omega) (by omega)
  rw [show (2 : Int) ^ 1 = 2 by decide] at h2
  rw [h1, show 4 * z + 2 * b = 2 * (2 * z + b) by omega, h2]
  omega
theorem code_nat {n k x y : Nat} (hk : k < n) (hn : n ≤ 16) : ∃ m : Nat, m ≤ 16 ∧ (n : Int) - 1 - k = m ∧ ((mort k (x / 2 ^ (n - k)) (y / 2 ^ (n - k)) : Nat) : Int) < 1073741824 ∧
    ((mort (k + 1) (x / 2 ^ (n - (k + 1))) (y / 2 ^ (n - (k + 1))) : Nat) : Int) = 4 * ((mort k (x / 2 ^ (n - k)) (y / 2 ^ (n - k)) : Nat) : Int) + (2 * (((y / 2 ^ m : Nat) : Int) % 2) + ((x / 2 ^ m : Nat) : Int) % 2) := by
  refine ⟨n - 1 - k, by omega, by omega, ?_, ?_⟩
  · have hz2 := mort_lt k (x / 2 ^ (n - k)) (y / 2 ^ (n - k))
    have hz3 := Nat.pow_le_pow_right (n := 4) (by decide) (show k ≤ 15 by omega)
    have e15 : 4 ^ 15 = 1073741824 := by decide
    omega
  · have em : n - k = (n - 1 - k) + 1 := by omega
    have em' : n - (k + 1) = n - 1 - k := by omega
    rw [em', em, mort_succ, Nat.pow_succ, ← Nat.div_div_eq_div_mul, ← Nat.div_div_eq_div_mul]
    omega
def CodeI (n x y : Nat) (k : Nat) (F : Fr) (H : List Bk) : Prop := ∃ z i : Int, z = ((mort k (x / 2 ^ (n - k)) (y / 2 ^ (n - k)) : Nat) : Int) ∧ i = (n : Int) - 1 - k ∧
  H = [.cells [.v (.sc (.int .i64 n)), .v (.sc (.int .i64 x)), .v (.sc (.int .i64 y))]] ∧ F = [(1, .v (.ptr 0 0)), (4, .v (.sc (.int .u64 z))), (5, .v (.sc (.int .i64 i)))]
theorem cCode (c : Ce) : PFn Try.prog 53 [c.v] (.tup [.sc (.int .u64 (codeR c).1), .sc (.bool (codeR c).2)]) := by
  have hF := cRightC c
  unfold Ce.v Ce.cs at hF ⊢
  refine AFn.intro (fn := Try.f53) (by kernel_rfl) rfl (by kernel_rfl) (by simp) (AW.ofx [] mixed (by kernel_rfl) ?_)
  simp only [Try.f53, argsF]
  simp
  refine callK.pure hF rfl rfl ?_
  cases h1 : rightC c
  · simp [codeR, h1]
  obtain ⟨n, x, y, rfl, hn, hx, hy⟩ := rightC_nat h1
  have w1 : IntKind.i64.wrap ((n : Int) - 1) = (n : Int) - 1 := by rw [wrap_i64] <;> omega
  rw [codeR_nat hn hx hy]
  have hpow := Nat.pow_le_pow_right (n := 2) (by decide) hn
  have e16 : 2 ^ 16 = 65536 := by decide
  simp [w1]
  refine AW.count n (CodeI n x y) ⟨_, ?_, 0, (n : Int) - 1, by simp [mort_zero], by simp, rfl, rfl⟩ ?_
  · simp [subW, weakV, getF]
  rintro k F H hk ⟨z, i, hz, hi, rfl, rfl⟩
  refine AW.ofx [] mixed (by kernel_rfl) ?_
  by_cases hlt : k < n
  · obtain ⟨m, hm16, hm, hzl, hstep⟩ := code_nat (x := x) (y := y) hlt hn
    have hxm : x / 2 ^ m ≤ x := Nat.div_le_self _ _
    have hym : y / 2 ^ m ≤ y := Nat.div_le_self _ _
    have s1 : shrI .i64 (x : Int) i = ((x / 2 ^ m : Nat) : Int) := by rw [hi, hm]; exact shrI_nat _ _ (by show m ≤ 64; omega)
    have s2 : shrI .i64 (y : Int) i = ((y / 2 ^ m : Nat) : Int) := by rw [hi, hm]; exact shrI_nat _ _ (by show m ≤ 64; omega)
    have hz0 : 0 ≤ z := by omega
    rw [← hz] at hstep hzl
    have hi0 : 0 ≤ i ∧ i ≤ 16 := by omega
    have hi1 : ¬ i < 0 := by omega
    have hxm' : ((x / 2 ^ m : Nat) : Int) ≤ 65536 ∧ 0 ≤ ((x / 2 ^ m : Nat) : Int) := ⟨Int.le_trans (Int.ofNat_le.2 hxm) (by omega), Int.natCast_nonneg _⟩
    have hym' : ((y / 2 ^ m : Nat) : Int) ≤ 65536 ∧ 0 ≤ ((y / 2 ^ m : Nat) : Int) := ⟨Int.le_trans (Int.ofNat_le.2 hym) (by omega), Int.natCast_nonneg _⟩
    have w2 : IntKind.i64.wrap (i - 1) = i - 1 := by rw [wrap_i64] <;> omega
    have nx : (n : Int) - 1 - ((k + 1 : Nat) : Int) = i - 1 := by omega
    generalize ((x / 2 ^ m : Nat) : Int) = xm at *
    generalize ((y / 2 ^ m : Nat) : Int) = ym at *
    have a1 := shl_four hz0 (by omega)
    have a2 := and_one (k := .i64) (.inl rfl) (z := xm) (by omega) (by omega)
    have a3 := and_one (k := .i64) (.inl rfl) (z := ym) (by omega) (by omega)
    have q1 := Int.emod_nonneg xm (b := 2) (by decide)
    have q2 := Int.emod_lt_of_pos xm (b := 2) (by decide)
    have q3 := Int.emod_nonneg ym (b := 2) (by decide)
    have q4 := Int.emod_lt_of_pos ym (b := 2) (by decide)
    have w3 : IntKind.u64.wrap (xm % 2) = xm % 2 := by rw [wrap_u64] <;> omega
    have w4 : IntKind.u64.wrap (ym % 2) = ym % 2 := by rw [wrap_u64] <;> omega
    have a4 := shl_one (z := ym % 2) (by omega) (by omega)
    have a5 := code_round hz0 hzl q1 q2 q3 q4
    simp [hi0, hi1, binR_shl, binR_shr, binR_and, binR_or, toU64, s1, s2, a1, a2, a3, a4, a5, w2, w3, w4]
    exact ⟨hlt, _, by simp [subW, weakV, getF], _, _, hstep.symm, nx.symm, rfl, rfl⟩
  · have : k = n := by omega
    subst this
    have hm : ¬ (0 : Int) ≤ i := by omega
    simp at hz
    simp [hm, hz]
end Go.Proofs.Ytoooldijnilpaaa
