/- Codes of cells, and cells of codes, as the program reckons them. -/
import Derived.Test.YtmjnffjacgjfmaaGb1
namespace Go.Proofs.Ytmjnffjacgjfmaa
set_option linter.all false
open Go.RowKit AM
set_option maxRecDepth 10000
attribute [local simp] aw_skip' aw_region' aw_seq' aw_cond' aw_block' aw_loop' aw_exit' aw_label' aw_ret' aops_nil' aops_cons' aop' aMove aAssign aPick aAlloc aBox aBuild slF aBuildSlice aLoad aLoadOwn aLoadS sharesAt shares sharedV aStore aStoreOwn isOwn delR aNilCheck aBin aMakeFunc aFieldAddr aField aIndexOp aIndex partV aIndexAddr aExtract aSliceOp aSlice slV aShrink aCallOp aCall' aInvoke' aLen aLenMap aDelete aMM aUn aConv aIface aAssert aMakeMap aLookup aMapUpdate aRange aNext aEntry entsOf keyB seekK aMakeSlice lookV aApp aAppendB aAppendF aAppend putK layK eval evalV AM.valOf getF putF setF del SV.refers cellsAt rootSV plains shift ldV V.exact V.exactL V.ofValue V.ofPart V.ofCell V.cells V.one Value.oneCell' fitB qSeq qBlock getB afin aret resVs resV resTmps shareF evalS tupV valsS valsV pickV calm calmB lenV useOf feeds shrinks stows looks isT newsV partsV fillV putAt zerosV fitsNil nilB sliceB isEq isNeq awx_skip' awx_region' awx_seq' awx_cond' awx_block' awx_loop' awx_exit' awx_label' awx_ret' xops_nil' xops_cons' xop' xload xcall' addO delO inO putD memB Mix.effB Mix.laysB keysF badK subW weakV zeroRow yops_nil' yops_cons' yop' yload yindex yfield ylen oldO dropO takeO oldL exactB V.fixed V.fixedL

theorem shl_four {z : Int} (h : 0 ≤ z) (h' : z < 4294967296) : shlI .u64 z 2 = 4 * z := by
  obtain ⟨n, rfl⟩ := Int.eq_ofNat_of_zero_le h
  have := shlI_u64 n 2 (by omega) (by omega)
  rw [show ((2 : Nat) : Int) = 2 by rfl] at this
  rw [this]
  omega
theorem shl_one {z : Int} (h : 0 ≤ z) (h' : z < 4294967296) : shlI .u64 z 1 = 2 * z := by
  obtain ⟨n, rfl⟩ := Int.eq_ofNat_of_zero_le h
  have := shlI_u64 n 1 (by omega) (by omega)
  rw [show ((1 : Nat) : Int) = 1 by rfl] at this
  rw [this]
  omega
theorem shr_div {k : IntKind} {y i : Int} (hk : k = .i64 ∨ k = .u64) (h : 0 ≤ y) (hi : 0 ≤ i) (h' : i ≤ 64) : shrI k y i = y / 2 ^ i.toNat := by
  obtain ⟨n, rfl⟩ := Int.eq_ofNat_of_zero_le h
  obtain ⟨m, rfl⟩ := Int.eq_ofNat_of_zero_le hi
  rw [shrI_nat _ _ (by rcases hk with rfl | rfl <;> (show m ≤ 64; omega))]
  simp
theorem and_one {k : IntKind} (hk : k = .i64 ∨ k = .u64) {z : Int} (h : 0 ≤ z) (h' : z ≤ 9223372036854775807) : andI k z 1 = z % 2 := by
  obtain ⟨n, rfl⟩ := Int.eq_ofNat_of_zero_le h
  have := andI_nat (k := k) n 1 hk (by omega) (by omega)
  rw [show ((1 : Nat) : Int) = 1 by rfl] at this
  rw [this, Nat.and_one_is_mod]
  omega
theorem or_low {k : IntKind} (hk : k = .i64 ∨ k = .u64) {a b : Int} (n : Nat) (ha : 0 ≤ a) (hb : 0 ≤ b) (hb' : b < 2 ^ n) (h : 2 ^ n * a + b < 9223372036854775808) : orI k (2 ^ n * a) b = 2 ^ n * a + b := by
  obtain ⟨x, rfl⟩ := Int.eq_ofNat_of_zero_le ha
  obtain ⟨y, rfl⟩ := Int.eq_ofNat_of_zero_le hb
  have e : (2 : Int) ^ n * (x : Int) = ((2 ^ n * x : Nat) : Int) := by simp
  have e2 : (2 : Int) ^ n = ((2 ^ n : Nat) : Int) := by simp
  rw [e] at h ⊢
  rw [e2] at hb'
  have := orI_nat (k := k) (2 ^ n * x) y hk (by omega) (by omega)
  rw [this, ← Nat.two_pow_add_eq_or_of_lt (by omega)]
  omega
/-- What a round of Code makes of what stands there. -/
theorem code_round {z a b : Int} (hz : 0 ≤ z) (hz' : z < 1073741824) (ha : 0 ≤ a) (ha' : a < 2) (hb : 0 ≤ b) (hb' : b < 2) : orI .u64 (orI .u64 (4 * z) (2 * b)) a = 4 * z + (2 * b + a) := by
  have h1 := or_low (k := .u64) (.inr rfl) (a := z) (b := 2 * b) 2 hz (by omega) (by omega) (by omega)
  rw [show (2 : Int) ^ 2 = 4 by decide] at h1
  have h2 := or_low (k := .u64) (.inr rfl) (a := 2 * z + b) (b := a) 1 (by omega) ha (by omega) (by omega)
  rw [show (2 : Int) ^ 1 = 2 by decide] at h2
  rw [h1, show 4 * z + 2 * b = 2 * (2 * z + b) by omega, h2]
  omega
theorem code_nat {n k x y : Nat} (hk : k < n) (hn : n ≤ 16) : ∃ m : Nat, m ≤ 16 ∧ (n : Int) - 1 - k = m ∧ ((mort k (x / 2 ^ (n - k)) (y / 2 ^ (n - k)) : Nat) : Int) < 1073741824 ∧
    ((mort (k + 1) (x / 2 ^ (n - (k + 1))) (y / 2 ^ (n - (k + 1))) : Nat) : Int) = 4 * ((mort k (x / 2 ^ (n - k)) (y / 2 ^ (n - k)) : Nat) : Int) + (2 * (((y / 2 ^ m : Nat) : Int) % 2) + ((x / 2 ^ m : Nat) : Int) % 2) := by
  refine ⟨n - 1 - k, by omega, by omega, ?_, ?_⟩
  · have hz2 := mort_lt k (x / 2 ^ (n - k)) (y / 2 ^ (n - k))
    have hz3 := Nat.pow_le_pow_right (n := 4) (by decide) (show k ≤ 15 by omega)
    have e15 : 4 ^ 15 = 1073741824 := by decide
    omega
  · have em : n - k = (n - 1 - k) + 1 := by omega
    have em' : n - (k + 1) = n - 1 - k := by omega
    rw [em', em, mort_succ, Nat.pow_succ, ← Nat.div_div_eq_div_mul, ← Nat.div_div_eq_div_mul]
    omega
def CodeI (n x y : Nat) (k : Nat) (F : Fr) (H : List Bk) : Prop := ∃ z i : Int, z = ((mort k (x / 2 ^ (n - k)) (y / 2 ^ (n - k)) : Nat) : Int) ∧ i = (n : Int) - 1 - k ∧
  H = [.cells [.v (.sc (.int .i64 n)), .v (.sc (.int .i64 x)), .v (.sc (.int .i64 y))]] ∧ F = [(1, .v (.ptr 0 0)), (4, .v (.sc (.int .u64 z))), (5, .v (.sc (.int .i64 i)))]
end Go.Proofs.Ytmjnffjacgjfmaa
