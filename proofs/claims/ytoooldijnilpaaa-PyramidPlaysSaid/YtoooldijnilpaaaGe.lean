/- Cells of codes, as the program reckons them. -/
import Derived.Test.YtoooldijnilpaaaGd
namespace Go.Proofs.Ytoooldijnilpaaa
set_option linter.all false
open Go.RowKit AM
set_option maxRecDepth 10000
attribute [local simp] aw_skip' aw_region' aw_seq' aw_cond' aw_block' aw_loop' aw_exit' aw_label' aw_ret' aops_nil' aops_cons' aop' aMove aAssign aPick aAlloc aBox aBuild aBuildSlice aLoad aLoadOwn aStore aStoreOwn isOwn delR aNilCheck aBin aMakeFunc aFieldAddr aField aIndexAddr aExtract aSliceOp aSlice aCallOp aCall' aLen aLenMap aDelete aMM aUn aConv aIface aAssert aMakeMap aLookup aMapUpdate aRange aNext aEntry entsOf keyB lookV aAppend putK layK eval evalV AM.valOf getF putF setF del SV.refers cellsAt rootSV plains shift ldV V.exact V.exactL V.ofValue V.ofPart V.ofCell V.cells V.one Value.oneCell' fitB qSeq qBlock getB afin aret resVs resV resTmps shareF evalS tupV valsS valsV pickV calm calmB lenV useOf feeds looks isT newsV partsV fillV putAt zerosV fitsNil nilB isEq isNeq awx_skip' awx_region' awx_seq' awx_cond' awx_block' awx_loop' awx_exit' awx_label' awx_ret' xops_nil' xops_cons' xop' xload xcall' addO delO inO putD memB Mix.effB Mix.laysB keysF badK subW weakV zeroRow yops_nil' yops_cons' yop' yload yindex yfield ylen oldO dropO takeO oldL exactB

theorem from_nat {k x y : Nat} (hk : k < 16) : ((mort 16 x y : Nat) : Int) / 2 ^ (2 * k) % 2 = ((x / 2 ^ k % 2 : Nat) : Int) ∧ ((mort 16 x y : Nat) : Int) / 2 ^ (2 * k + 1) % 2 = ((y / 2 ^ k % 2 : Nat) : Int) := by
  obtain ⟨m, hm⟩ : ∃ m, 16 = (m + 1) + k := ⟨15 - k, by omega⟩
  have h := mort_shift (m + 1) k x y
  rw [← hm] at h
  have e4 : 4 ^ k = 2 ^ (2 * k) := by rw [Nat.pow_mul]
  rw [e4] at h
  have h1 : mort 16 x y / 2 ^ (2 * k) % 2 = x / 2 ^ k % 2 := by
    rw [h, mort_succ]; omega
  have h2 : mort 16 x y / 2 ^ (2 * k + 1) % 2 = y / 2 ^ k % 2 := by
    rw [Nat.pow_succ, ← Nat.div_div_eq_div_mul, h, mort_succ]; omega
  constructor
  · rw [← h1]; simp
  · rw [← h2]; simp
theorem or_bit {x k : Nat} (hk : k < 16) : orI .i64 ((x % 2 ^ k : Nat) : Int) (((x / 2 ^ k % 2 : Nat) : Int) * 2 ^ k) = ((x % 2 ^ (k + 1) : Nat) : Int) := by
  have hp := Nat.pow_le_pow_right (n := 2) (by decide) (show k ≤ 15 by omega)
  have e15 : 2 ^ 15 = 32768 := by decide
  have hlt : x % 2 ^ k < 2 ^ k := Nat.mod_lt _ (Nat.two_pow_pos k)
  have hb : x / 2 ^ k % 2 < 2 := Nat.mod_lt _ (by decide)
  have e : ((x / 2 ^ k % 2 : Nat) : Int) * 2 ^ k = ((2 ^ k * (x / 2 ^ k % 2) : Nat) : Int) := by simp [Int.mul_comm]
  have hm : 2 ^ k * (x / 2 ^ k % 2) ≤ 2 ^ k * 1 := Nat.mul_le_mul_left _ (by omega)
  rw [e, orI_nat _ _ (.inl rfl) (by omega) (by omega), Nat.or_comm, ← Nat.two_pow_add_eq_or_of_lt hlt, Nat.mod_pow_succ, Nat.add_comm]
theorem shl_i64' {b : Int} {k : Nat} (hb : 0 ≤ b) (hb' : b < 2) (hk : k < 16) : shlI .i64 b (k : Int) = b * 2 ^ k := by
  obtain ⟨n, rfl⟩ := Int.eq_ofNat_of_zero_le hb
  have hp := Nat.pow_le_pow_right (n := 2) (by decide) (show k ≤ 15 by omega)
  have e15 : 2 ^ 15 = 32768 := by decide
  have hm : n * 2 ^ k ≤ 1 * 2 ^ k := Nat.mul_le_mul_right _ (by omega)
  rw [shlI_i64 _ _ (by omega) (by omega)]
  simp
def FromI (c : Int) (x y : Nat) (k : Nat) (F : Fr) (H : List Bk) : Prop := ∃ a b : Int, a = ((x % 2 ^ k : Nat) : Int) ∧ b = ((y % 2 ^ k : Nat) : Int) ∧
  H = [.cells [.v (.sc (.int .i64 0)), .v (.sc (.int .i64 0)), .v (.sc (.int .i64 0))], .cells [.v (.sc (.int .i64 16)), .v (.sc (.int .i64 a)), .v (.sc (.int .i64 b))]] ∧
  F = [(1, .v (.sc (.int .u64 c))), (4, .v (.ptr 0 0)), (6, .v (.ptr 1 0)), (21, .v (.sc (.int .i64 16))), (22, .v (.sc (.int .i64 k)))]
theorem cFromCode (x y : Nat) (hx : x < 65536) (hy : y < 65536) : PFn Try.prog 66 [.sc (.int .i64 16), .sc (.int .u64 (mort 16 x y : Nat))] (.tup [(⟨16, x, y⟩ : Ce).v, .sc (.bool true)]) := by
  have hc := mort_le (n := 16) (by omega) x y
  have hfrom := fun k hk => from_nat (x := x) (y := y) (k := k) hk
  have hc0 : 0 ≤ ((mort 16 x y : Nat) : Int) := by omega
  have hc1 : ((mort 16 x y : Nat) : Int) < 4294967296 := by omega
  generalize ((mort 16 x y : Nat) : Int) = c at *
  refine AFn.intro (fn := Try.f66) (by kernel_rfl) rfl (by kernel_rfl) (by simp) (AW.ofx [] mixed (by kernel_rfl) ?_)
  simp only [Try.f66, argsF]
  simp
  refine callK.pure (cright _) rfl rfl ?_
  have r16 : rightL 16 = true := by decide
  have w0 : IntKind.i64.wrap (2 * 16) = 32 := by decide
  have w00 : IntKind.i64.wrap 32 = 32 := by decide
  have s0 : shrI .u64 c 32 = 0 := by
    have h1 := shr_div (k := .u64) (i := 32) (.inr rfl) hc0 (by omega) (by omega)
    rw [h1]
    have : (2 : Int) ^ (32 : Int).toNat = 4294967296 := by decide
    rw [this]
    omega
  simp [r16, w0, w00, binR_shr, s0, setCells, setBlk]
  refine AW.count 16 (FromI c x y) ⟨_, ?_, 0, 0, by simp [Nat.mod_one], by simp [Nat.mod_one], rfl, rfl⟩ ?_
  · simp [subW, weakV, getF]
  rintro k F H hk ⟨a, b, ha, hb, rfl, rfl⟩
  refine AW.ofx [] mixed (by kernel_rfl) ?_
  by_cases hlt : k < 16
  · have hlt' : (k : Int) < 16 := by omega
    have w1 : IntKind.i64.wrap ((k : Int) + 1) = (k : Int) + 1 := by rw [wrap_i64] <;> omega
    have w2 : IntKind.i64.wrap (2 * (k : Int)) = 2 * (k : Int) := by rw [wrap_i64] <;> omega
    have w3 : IntKind.i64.wrap (2 * (k : Int) + 1) = 2 * (k : Int) + 1 := by rw [wrap_i64] <;> omega
    have n1 : ¬ 2 * (k : Int) < 0 := by omega
    have n2 : ¬ 2 * (k : Int) + 1 < 0 := by omega
    have n3 : ¬ (k : Int) < 0 := by omega
    have s1 : shrI .u64 c (2 * (k : Int)) = c / 2 ^ (2 * k) := by
      rw [shr_div (.inr rfl) hc0 (by omega) (by omega)]
      congr 2
    have s2 : shrI .u64 c (2 * (k : Int) + 1) = c / 2 ^ (2 * k + 1) := by
      rw [shr_div (.inr rfl) hc0 (by omega) (by omega)]
      congr 2
    obtain ⟨f1, f2⟩ := hfrom k hlt
    have d1 := div_le' hc0 (pow_pos' (2 * k))
    have d2 := div_le' hc0 (pow_pos' (2 * k + 1))
    have a1 := and_one (k := .u64) (.inr rfl) (z := c / 2 ^ (2 * k)) d1.1 (by omega)
    have a2 := and_one (k := .u64) (.inr rfl) (z := c / 2 ^ (2 * k + 1)) d2.1 (by omega)
    rw [f1] at a1
    rw [f2] at a2
    have b1 : x / 2 ^ k % 2 < 2 := Nat.mod_lt _ (by decide)
    have b2 : y / 2 ^ k % 2 < 2 := Nat.mod_lt _ (by decide)
    have o1 := or_bit (x := x) hlt
    have o2 := or_bit (x := y) hlt
    rw [← ha] at o1
    rw [← hb] at o2
    have b1' : 0 ≤ ((x / 2 ^ k % 2 : Nat) : Int) ∧ ((x / 2 ^ k % 2 : Nat) : Int) < 2 := ⟨Int.natCast_nonneg _, Int.ofNat_lt.2 b1⟩
    have b2' : 0 ≤ ((y / 2 ^ k % 2 : Nat) : Int) ∧ ((y / 2 ^ k % 2 : Nat) : Int) < 2 := ⟨Int.natCast_nonneg _, Int.ofNat_lt.2 b2⟩
    generalize ((x / 2 ^ k % 2 : Nat) : Int) = bx at *
    generalize ((y / 2 ^ k % 2 : Nat) : Int) = by' at *
    generalize ha' : ((x % 2 ^ (k + 1) : Nat) : Int) = a' at *
    generalize hb' : ((y % 2 ^ (k + 1) : Nat) : Int) = b' at *
    have w4 : IntKind.i64.wrap bx = bx := by rw [wrap_i64] <;> omega
    have w5 : IntKind.i64.wrap by' = by' := by rw [wrap_i64] <;> omega
    have c1 := shl_i64' b1'.1 b1'.2 hlt
    have c2 := shl_i64' b2'.1 b2'.2 hlt
    generalize c / 2 ^ (2 * k) = q1 at *
    generalize c / 2 ^ (2 * k + 1) = q2 at *
    generalize bx * 2 ^ k = q3 at *
    generalize by' * 2 ^ k = q4 at *
    simp [hlt', binR_shl, binR_shr, binR_and, binR_or, toI64, n1, n2, n3, w1, w2, w3, s1, s2, a1, a2, w4, w5, c1, c2, o1, o2, setCells, setBlk]
    exact ⟨hlt, _, by simp [subW, weakV, getF], a', b', ha'.symm, hb'.symm, rfl, rfl⟩
  · have : k = 16 := by omega
    subst this
    rw [Nat.mod_eq_of_lt (by omega)] at ha hb
    simp [setCells, setBlk, ha, hb, Ce.v, Ce.cs]
end Go.Proofs.Ytoooldijnilpaaa
