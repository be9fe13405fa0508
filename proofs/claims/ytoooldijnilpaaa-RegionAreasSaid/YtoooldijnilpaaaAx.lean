/- What the library's sort leaves, at elements of one cell. Plain lemmas, over any program. -/
import Derived.Test.YtoooldijnilpaaaAw
namespace Go.Proofs.Ytoooldijnilpaaa
set_option linter.all false
open Go.RowKit Go.Sort
namespace AM
section
variable {α : Type} [Inhabited α] {enc : α → Value}
theorem holds_of_row {w : World} {g : Nat} {cur : Array Value} {e : TypeId} {ss : List α} (hb : w.heap[g]? = some (.cells cur e (0, 0))) (ht : cur.toList.take ss.length = ss.map enc) : Holds enc w g 0 ss.toArray := by
  intro j hj
  have hj' : j < ss.length := by simpa using hj
  refine ⟨?_, by simp [World.frozen?, hb]⟩
  have h1 : (cur.toList.take ss.length)[j]? = (ss.map enc)[j]? := by rw [ht]
  rw [List.getElem?_take_of_lt hj'] at h1
  simp only [World.cell?, hb, Nat.zero_add]
  simp only [Option.isSome_none, Bool.false_eq_true, if_false]
  rw [← Array.getElem?_toList, h1]
  simp [hj']
theorem heap_put {w : World} {g n : Nat} {os : Array Obj} {cur : Array Value} {e : TypeId} {fr : Nat × Nat} (d : Array α) (hb : w.heap[g]? = some (.cells cur e fr)) :
    (grow (putRow enc (Sort.ahead w n) g 0 d) os).heap[g]? = some (.cells (putCells enc 0 d cur) e fr) := by
  have hg : g < w.heap.size := (Array.getElem?_eq_some_iff.1 hb).1
  rw [heap_grow_old _ _ (by simpa using hg)]
  simp [putRow, mapBlock, Sort.ahead, Array.getElem?_modify, hb, onCells]
theorem take_put (cur : Array Value) (ts : List α) (h : ts.length ≤ cur.size) : (putCells enc 0 ts.toArray cur).toList.take ts.length = ts.map enc := by
  apply List.ext_getElem?
  intro j
  by_cases hj : j < ts.length
  · rw [List.getElem?_take_of_lt hj, Array.getElem?_toList]
    simp [putCells, hj, show j < cur.size by omega]
  · rw [List.getElem?_take_eq_none (by omega), List.getElem?_eq_none (by simp; omega)]
theorem rowTurned {w : World} {g cap n : Nat} {e : TypeId} {os : Array Obj} {cur : Array Value} {zs ys : List α} (hl : ys.length = zs.length) (hb : w.heap[g]? = some (.cells cur e (0, 0)))
    (h1 : zs.length ≤ cap) (h2 : cap ≤ maxLen) (h3 : cur.size = cap * 1) : RowTurned w (grow (putRow enc (Sort.ahead w n) g 0 ys.toArray) os) g e 1 zs.length cap (ys.map enc) := by
  refine ⟨rfl, rfl, rfl, by simp, fun k hne hk => ?_, by simp [hl], .inr ⟨g, cap, _, rfl, Nat.zero_le _, heap_put _ hb, h1, h2, by simp [putCells, h3], by rw [Nat.mul_one, ← hl]; exact take_put cur ys (by omega)⟩⟩
  rw [heap_grow_old _ _ (by simpa using hk)]
  simp [putRow, mapBlock, Sort.ahead, Array.getElem?_modify, Ne.symm hne]
/-- One element or none: nothing turns. -/
theorem rowTurned_still {w : World} {g cap : Nat} {e : TypeId} {os : Array Obj} {cur : Array Value} {zs : List α} (hb : w.heap[g]? = some (.cells cur e (0, 0)))
    (h1 : zs.length ≤ cap) (h2 : cap ≤ maxLen) (h3 : cur.size = cap * 1) (h4 : cur.toList.take zs.length = zs.map enc) : RowTurned w (grow w os) g e 1 zs.length cap (zs.map enc) := by
  have hg : g < w.heap.size := (Array.getElem?_eq_some_iff.1 hb).1
  refine ⟨rfl, rfl, rfl, by simp, fun k hne hk => heap_grow_old _ _ hk, by simp, .inr ⟨g, cap, cur, rfl, Nat.zero_le _, (heap_grow_old _ _ hg).trans hb, h1, h2, h3, by rw [Nat.mul_one]; exact h4⟩⟩
theorem below_grow {w : World} {os : Array Obj} : Go.RowKit.Below w.heap.size w (grow w os) := ⟨rfl, rfl, rfl, by simp, fun k hk => heap_grow_old _ _ hk⟩
end
def sorted' (zs : List Int) : List Int := zs.mergeSort fun x y => decide (x ≤ y)
theorem sorted'_rises (a : List Int) : (sorted' a).Pairwise fun x y => x ≤ y := by
  have := List.pairwise_mergeSort (le := fun x y : Int => decide (x ≤ y)) (fun a b c h1 h2 => by simp at *; omega) (fun a b => by simp; omega) a
  simpa [sorted'] using this
theorem sorted'_unique {a b : List Int} (hp : b.Perm a) (hb : b.Pairwise fun x y => x ≤ y) : b = sorted' a := by
  have ha := List.mergeSort_perm a fun x y => decide (x ≤ y)
  exact List.Perm.eq_of_pairwise (le := fun x y : Int => x ≤ y) (fun x y _ _ h1 h2 => Int.le_antisymm h1 h2) hb (sorted'_rises a) (hp.trans ha.symm)
theorem sorted'_short {a : List Int} (h : a.length ≤ 1) : sorted' a = a := by
  refine (sorted'_unique (List.Perm.refl a) ?_).symm
  match a, h with
  | [], _ => exact List.Pairwise.nil
  | [x], _ => simp
theorem sorted_of_perm {d d' : Array Int} (hp : PermIn 0 d.size d d') (hs : SortedIn ltInt 0 d.size d') : d'.toList = sorted' d.toList := by
  obtain ⟨h1, _, h3⟩ := hp
  have e1 : d'.extract 0 d.size = d' := by rw [← h1]; simp
  have e2 : d.extract 0 d.size = d := by simp
  rw [e1, e2] at h3
  refine sorted'_unique h3 ?_
  rw [List.pairwise_iff_getElem]
  intro i j hi hj hij
  have hj' : j < d'.size := by simpa using hj
  have := hs i j (Nat.zero_le _) hij (by omega)
  have hi' : i < d'.size := by omega
  rw [getElem!_pos d' i hi', getElem!_pos d' j hj'] at this
  simp only [ltInt, decide_eq_false_iff_not, Int.not_lt] at this
  simpa using this
end AM
end Go.Proofs.Ytoooldijnilpaaa
