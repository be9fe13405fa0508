/- Shifts, bits, quotients over an abstract state; the codes of cells (plain). Plain lemmas, over any program. -/
import Derived.Test.YtmjnffjacgjfmaaAr1
namespace Go.Proofs.Ytmjnffjacgjfmaa
set_option linter.all false
open Go.RowKit
namespace AM
def shrI (k : IntKind) (a b : Int) : Int := a.fdiv (2 ^ (min b.toNat k.bits))
def shlI (k : IntKind) (a b : Int) : Int := k.wrap (a * 2 ^ (min b.toNat k.bits))
def andI (k : IntKind) (a b : Int) : Int := k.wrap ((BitVec.ofInt k.bits a &&& BitVec.ofInt k.bits b).toNat)
def orI (k : IntKind) (a b : Int) : Int := k.wrap ((BitVec.ofInt k.bits a ||| BitVec.ofInt k.bits b).toNat)
section
variable {P : Program} {t : TypeId} {x y : Operand} {k yk : IntKind} {a b : Int}
theorem binR_quo : binR P .quo t x y (.int k a) (.int k b) = if b = 0 then none else some (.int k (k.wrap (a.tdiv b))) := by
  have e : binR P .quo t x y (.int k a) (.int k b) = idle P (if b = 0 then Op.intDiv .quo k a b else Op.intDiv .quo k a b) := by cases k <;> simp <;> rfl
  rw [e]
  by_cases h : b = 0
  · subst h; rw [if_pos rfl]; rfl
  · rw [if_neg h, if_neg h]; unfold Op.intDiv; rw [if_neg h]; rfl
theorem binR_rem : binR P .rem t x y (.int k a) (.int k b) = if b = 0 then none else some (.int k (a.tmod b)) := by
  have e : binR P .rem t x y (.int k a) (.int k b) = idle P (if b = 0 then Op.intDiv .rem k a b else Op.intDiv .rem k a b) := by cases k <;> simp <;> rfl
  rw [e]
  by_cases h : b = 0
  · subst h; rw [if_pos rfl]; rfl
  · rw [if_neg h, if_neg h]; unfold Op.intDiv; rw [if_neg h]; rfl
theorem binR_shr : binR P .shr t x y (.int k a) (.int yk b) = if b < 0 then none else some (.int k (shrI k a b)) := by
  have e : binR P .shr t x y (.int k a) (.int yk b) = idle P (Op.shift .shr k a yk b) := rfl
  rw [e]
  unfold Op.shift
  by_cases h : b < 0
  · rw [if_pos h, if_pos h]; rfl
  · rw [if_neg h, if_neg h]; rfl
theorem binR_shl : binR P .shl t x y (.int k a) (.int yk b) = if b < 0 then none else some (.int k (shlI k a b)) := by
  have e : binR P .shl t x y (.int k a) (.int yk b) = idle P (Op.shift .shl k a yk b) := rfl
  rw [e]
  unfold Op.shift
  by_cases h : b < 0
  · rw [if_pos h, if_pos h]; rfl
  · rw [if_neg h, if_neg h]; rfl
theorem binR_and : binR P .and t x y (.int k a) (.int k b) = some (.int k (andI k a b)) := by cases k <;> rfl
theorem binR_or : binR P .or t x y (.int k a) (.int k b) = some (.int k (orI k a b)) := by cases k <;> rfl
end
theorem wrap_u64 {n : Int} (h : 0 ≤ n) (h' : n ≤ 18446744073709551615) : IntKind.u64.wrap n = n := by
  unfold IntKind.wrap
  simp [IntKind.bits, IntKind.signed]
  omega
theorem shrI_nat {k : IntKind} (a b : Nat) (h : b ≤ k.bits) : shrI k a b = ((a / 2 ^ b : Nat) : Int) := by
  unfold shrI
  rw [Int.toNat_natCast, Nat.min_eq_left h, show ((2 : Int) ^ b) = ((2 ^ b : Nat) : Int) by simp, Int.fdiv_eq_ediv_of_nonneg _ (Int.natCast_nonneg _)]
  exact (Int.natCast_ediv a (2 ^ b)).symm
theorem shlI_i64 (a b : Nat) (h : b ≤ 64) (h' : a * 2 ^ b ≤ 9223372036854775807) : shlI .i64 a b = ((a * 2 ^ b : Nat) : Int) := by
  unfold shlI
  rw [Int.toNat_natCast, Nat.min_eq_left (by simpa [IntKind.bits] using h), show ((a : Int) * 2 ^ b) = ((a * 2 ^ b : Nat) : Int) by simp]
  rw [wrap_i64] <;> omega
theorem shlI_u64 (a b : Nat) (h : b ≤ 64) (h' : a * 2 ^ b ≤ 18446744073709551615) : shlI .u64 a b = ((a * 2 ^ b : Nat) : Int) := by
  unfold shlI
  rw [Int.toNat_natCast, Nat.min_eq_left (by simpa [IntKind.bits] using h), show ((a : Int) * 2 ^ b) = ((a * 2 ^ b : Nat) : Int) by simp]
  rw [wrap_u64] <;> omega
theorem bv_nat {n a : Nat} : (BitVec.ofInt n (a : Int)) = BitVec.ofNat n a := by simp
theorem andI_nat {k : IntKind} (a b : Nat) (hk : k = .i64 ∨ k = .u64) (ha : a ≤ 9223372036854775807) (hb : b ≤ 9223372036854775807) : andI k a b = ((a &&& b : Nat) : Int) := by
  have h1 : a &&& b ≤ a := Nat.and_le_left
  have e : (BitVec.ofInt 64 (a : Int) &&& BitVec.ofInt 64 (b : Int)).toNat = a &&& b := by
    rw [bv_nat, bv_nat, BitVec.toNat_and, BitVec.toNat_ofNat, BitVec.toNat_ofNat, Nat.mod_eq_of_lt (by omega), Nat.mod_eq_of_lt (by omega)]
  rcases hk with rfl | rfl
  · show IntKind.i64.wrap ((BitVec.ofInt 64 (a : Int) &&& BitVec.ofInt 64 (b : Int)).toNat) = _
    rw [e, wrap_i64] <;> omega
  · show IntKind.u64.wrap ((BitVec.ofInt 64 (a : Int) &&& BitVec.ofInt 64 (b : Int)).toNat) = _
    rw [e, wrap_u64] <;> omega
theorem orI_nat {k : IntKind} (a b : Nat) (hk : k = .i64 ∨ k = .u64) (ha : a < 9223372036854775808) (hb : b < 9223372036854775808) : orI k a b = ((a ||| b : Nat) : Int) := by
  have h1 : a ||| b < 2 ^ 63 := Nat.or_lt_two_pow (by simpa using ha) (by simpa using hb)
  have e : (BitVec.ofInt 64 (a : Int) ||| BitVec.ofInt 64 (b : Int)).toNat = a ||| b := by
    rw [bv_nat, bv_nat, BitVec.toNat_or, BitVec.toNat_ofNat, BitVec.toNat_ofNat, Nat.mod_eq_of_lt (by omega), Nat.mod_eq_of_lt (by omega)]
  rcases hk with rfl | rfl
  · show IntKind.i64.wrap ((BitVec.ofInt 64 (a : Int) ||| BitVec.ofInt 64 (b : Int)).toNat) = _
    rw [e, wrap_i64] <;> omega
  · show IntKind.u64.wrap ((BitVec.ofInt 64 (a : Int) ||| BitVec.ofInt 64 (b : Int)).toNat) = _
    rw [e, wrap_u64] <;> omega
end AM

/-! ## Codes -/
def mort : Nat → Nat → Nat → Nat
  | 0, _, _ => 0
  | n + 1, x, y => 4 * mort n (x / 2) (y / 2) + (2 * (y % 2) + x % 2)
theorem mort_zero (x y : Nat) : mort 0 x y = 0 := rfl
theorem mort_succ (n x y : Nat) : mort (n + 1) x y = 4 * mort n (x / 2) (y / 2) + (2 * (y % 2) + x % 2) := rfl
theorem mort_lt : ∀ n x y, mort n x y < 4 ^ n
  | 0, _, _ => by simp [mort]
  | n + 1, x, y => by
    have := mort_lt n (x / 2) (y / 2)
    rw [mort_succ, Nat.pow_succ]
    omega
theorem mort_div (n x y : Nat) : mort (n + 1) x y / 4 = mort n (x / 2) (y / 2) := by
  rw [mort_succ]
  omega
theorem mort_shift (n k x y : Nat) : mort (n + k) x y / 4 ^ k = mort n (x / 2 ^ k) (y / 2 ^ k) := by
  induction k generalizing x y with
  | zero => simp
  | succ k ih =>
    rw [Nat.pow_succ, Nat.mul_comm (4 ^ k) 4, ← Nat.div_div_eq_div_mul, ← Nat.add_assoc, mort_div, ih, Nat.pow_succ, Nat.mul_comm (2 ^ k) 2, ← Nat.div_div_eq_div_mul, ← Nat.div_div_eq_div_mul]
theorem mort_inj : ∀ {n x y x' y' : Nat}, x < 2 ^ n → y < 2 ^ n → x' < 2 ^ n → y' < 2 ^ n → mort n x y = mort n x' y' → x = x' ∧ y = y'
  | 0, x, y, x', y', h1, h2, h3, h4, _ => by simp at h1 h2 h3 h4; omega
  | n + 1, x, y, x', y', h1, h2, h3, h4, h => by
    rw [mort_succ, mort_succ] at h
    rw [Nat.pow_succ] at h1 h2 h3 h4
    have h5 : mort n (x / 2) (y / 2) = mort n (x' / 2) (y' / 2) := by omega
    obtain ⟨e1, e2⟩ := mort_inj (by omega) (by omega) (by omega) (by omega) h5
    omega
end Go.Proofs.Ytmjnffjacgjfmaa
