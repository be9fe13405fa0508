/- Entries and their order: what Less of the queue and of the reference give. -/
import Derived.Test.YthognfmmjkmjnaaRows
import Derived.Test.YthognfmmjkmjnaaBase
import Derived.Test.YthognfmmjkmjnaaMix
import Derived.Test.YthognfmmjkmjnaaQp
namespace Go.Proofs.Ythognfmmjkmjnaa
open Go.RowKit

namespace Ent
def cells (e : Ent) : List Value := [.int .u64 e.k, .int .u64 e.t, .int .i64 e.i]
def val (e : Ent) : Value := .agg #[.int .u64 e.k, .int .u64 e.t, .int .i64 e.i]
end Ent

theorem mixed : Try.prog.follows .mixedOrders = true := by kernel_rfl

set_option maxHeartbeats 400000 in
theorem qLess (x y : Ent) (w : World) :
    Calls Try.prog 19 #[x.val, y.val] w fun e w' => e = .returned (.bool (x.lt y)) ∧ Below w.heap.size w w' := by
  obtain ⟨a, b, c⟩ := x
  obtain ⟨a', b', c'⟩ := y
  have hB : Below w.heap.size w ((w.alloc (.cells #[.int .u64 a, .int .u64 b, .int .i64 c] 36)).alloc (.cells #[.int .u64 a', .int .u64 b', .int .i64 c'] 36)) :=
    ((Below.refl _ _).alloc (Nat.le_refl _) _).alloc (by simp) _
  unfold Ent.val
  by_cases h1 : a = a'
  · subst h1
    by_cases h2 : b = b'
    · subst h2
      go_enter Try.func19, Try.ntmps19
      go_wp2
      go_ret
      exact ⟨ret_bool (by simp [Ent.lt]), hB⟩
    · have h2' : (b != b') = true := by simpa using h2
      go_enter Try.func19, Try.ntmps19
      go_wp2
      go_ret
      exact ⟨ret_bool (by simp [Ent.lt, h2]), hB⟩
  · have h1' : (a != a') = true := by simpa using h1
    go_enter Try.func19, Try.ntmps19
    go_wp2
    go_ret
    exact ⟨ret_bool (by simp [Ent.lt, h1]), hB⟩

set_option maxHeartbeats 400000 in
theorem rLess (x y : Ent) (w : World) :
    Calls Try.prog 20 #[x.val, y.val] w fun e w' => e = .returned (.bool (x.lt y)) ∧ Below w.heap.size w w' := by
  obtain ⟨a, b, c⟩ := x
  obtain ⟨a', b', c'⟩ := y
  have hB : Below w.heap.size w ((w.alloc (.cells #[.int .u64 a, .int .u64 b, .int .i64 c] 36)).alloc (.cells #[.int .u64 a', .int .u64 b', .int .i64 c'] 36)) :=
    ((Below.refl _ _).alloc (Nat.le_refl _) _).alloc (by simp) _
  unfold Ent.val
  by_cases h1 : a < a'
  · go_enter Try.func20, Try.ntmps20
    go_wp2
    go_ret
    exact ⟨ret_bool (by simp [Ent.lt, h1]), hB⟩
  · by_cases h2 : a = a'
    · subst h2
      by_cases h3 : b < b'
      · go_enter Try.func20, Try.ntmps20
        go_wp2
        go_ret
        exact ⟨ret_bool (by simp [Ent.lt, h3]), hB⟩
      · by_cases h4 : b = b'
        · subst h4
          go_enter Try.func20, Try.ntmps20
          go_wp2
          go_ret
          exact ⟨ret_bool (by simp [Ent.lt]), hB⟩
        · have h4' : (b == b') = false := by simpa using h4
          go_enter Try.func20, Try.ntmps20
          go_wp2
          go_ret
          exact ⟨ret_bool (by simp [Ent.lt, h3, h4]), hB⟩
    · have h2' : (a == a') = false := by simpa using h2
      go_enter Try.func20, Try.ntmps20
      go_wp2
      go_ret
      exact ⟨ret_bool (by simp [Ent.lt, h1, h2]), hB⟩
end Go.Proofs.Ythognfmmjkmjnaa
