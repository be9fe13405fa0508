/- Runs: the functions that slices.SortFunc is handed. -/
import Derived.Shelf.SlSortCmp.WholeK
import Derived.Deep.QuietTactic
import Derived.Test.YtoooldijnilpaaaBase
import Derived.Test.YtoooldijnilpaaaTy
namespace Go.Proofs.Ytoooldijnilpaaa
set_option linter.all false
open Go.Shelf Go.RowKit Go.Lib Go.Sort
theorem runFirst (x y : Int) (W : World) : Calls Try.prog 134 #[.agg #[.int .i64 x, .int .i64 y]] W fun e w' => e = .returned (.int .i64 x) ∧ ∃ q os', w' = grow (W.drewN q) os' := by
  go_enter Try.func134, Try.ntmps134
  go_wp2
  go_ret
  exact ⟨rfl, 0, _, by rw [alloc_eq_grow]; rfl⟩
set_option maxRecDepth 100000 in
set_option maxHeartbeats 2000000 in
theorem cmpRuns (a b c d : Int) (hc : IntKind.i64.wrap (a - c) = a - c) (W : World) : Calls Try.prog 133 #[.agg #[.int .i64 a, .int .i64 b], .agg #[.int .i64 c, .int .i64 d]] W fun e w' => e = .returned (.int .i64 (a - c)) ∧ ∃ q os', w' = grow (W.drewN q) os' := by
  have h1 := fun W' => runFirst a b W'
  have h2 := fun W' => runFirst c d W'
  go_enter Try.func133, Try.ntmps133
  go_wp2
  have hmix : Try.prog.follows .mixedOrders = true := mixed
  have g0 : ∀ n os, (grow (((W.alloc (.cells #[.int .i64 a, .int .i64 b] 124)).alloc (.cells #[.int .i64 c, .int .i64 d] 124)).drewN n) os).cell? ⟨W.heap.size, 0, none⟩ = some (.int .i64 a) := fun n os => cell_grown (by simp; omega) (by simp) n os
  have g1 : ∀ n os, (grow (((W.alloc (.cells #[.int .i64 a, .int .i64 b] 124)).alloc (.cells #[.int .i64 c, .int .i64 d] 124)).drewN n) os).cell? ⟨W.heap.size, 1, none⟩ = some (.int .i64 b) := fun n os => cell_grown (by simp; omega) (by simp) n os
  have g2 : ∀ n os, (grow (((W.alloc (.cells #[.int .i64 a, .int .i64 b] 124)).alloc (.cells #[.int .i64 c, .int .i64 d] 124)).drewN n) os).cell? ⟨W.heap.size + 1, 0, none⟩ = some (.int .i64 c) := fun n os => cell_grown (by simp) (by simp) n os
  have g3 : ∀ n os, (grow (((W.alloc (.cells #[.int .i64 a, .int .i64 b] 124)).alloc (.cells #[.int .i64 c, .int .i64 d] 124)).drewN n) os).cell? ⟨W.heap.size + 1, 1, none⟩ = some (.int .i64 d) := fun n os => cell_grown (by simp) (by simp) n os
  have hE : ∃ os0, (W.alloc (.cells #[.int .i64 a, .int .i64 b] 124)).alloc (.cells #[.int .i64 c, .int .i64 d] 124) = grow W os0 := ⟨_, by rw [alloc_eq_grow, alloc_eq_grow, grow_grow]⟩
  generalize (W.alloc (.cells #[.int .i64 a, .int .i64 b] 124)).alloc (.cells #[.int .i64 c, .int .i64 d] 124) = W1 at *
  go_quiet_grown (first | (first | refine Calls.grown_of (h1 _) | refine Calls.grown_of (h2 _)))
  go_wp2
  go_ret
  obtain ⟨os0, rfl⟩ := hE
  refine ⟨?_, nq, os0 ++ osq, ?_⟩
  · rfl
  · show grow (grow (W.drewN nq) os0) osq = _
    rw [grow_grow]
end Go.Proofs.Ytoooldijnilpaaa
