/- Zooms of points by rules: the greatest that is allowed, and the least that caps it (plain). -/
import Derived.Test.YtmkeeghjpdnknaaWa
namespace Go.Proofs.Ytmkeeghjpdnknaa
set_option linter.all false
/-- A rule's part in a zoom, of rules that are for someone at a point. -/
def zoomS (q : Ru → Bool) (s : Int × Int) (r : Ru) : Int × Int := if q r then (if r.kind = 4 then (max s.1 r.zoom, s.2) else (s.1, min s.2 r.zoom)) else s
def zoomL (q : Ru → Bool) (l : List Ru) : Int := min (l.foldl (zoomS q) (0, 16)).1 (l.foldl (zoomS q) (0, 16)).2
def allowS (q : Ru → Bool) (z : Int) (r : Ru) : Int := if r.kind = 4 ∧ z < r.zoom ∧ q r = true then r.zoom else z
def capS (q : Ru → Bool) (z : Int) (r : Ru) : Int := if r.kind = 5 ∧ r.zoom < z ∧ q r = true then r.zoom else z
/-- The document's zoom. -/
def zoomD (q : Ru → Bool) (l : List Ru) : Int := l.foldl (capS q) (l.foldl (allowS q) 0)
theorem zoom_fst {q : Ru → Bool} : ∀ (l : List Ru) (s : Int × Int), (∀ r ∈ l, q r = true → r.kind = 4 ∨ r.kind = 5) → (l.foldl (zoomS q) s).1 = l.foldl (allowS q) s.1
  | [], s, _ => rfl
  | r :: l, s, h => by
    rw [List.foldl_cons, List.foldl_cons, zoom_fst l _ fun r hr => h r (by simp [hr])]
    congr 1
    unfold zoomS allowS
    cases hq : q r with
    | false => simp
    | true =>
      by_cases h4 : r.kind = 4
      · simp [h4]
        omega
      · simp [h4]
theorem zoom_snd {q : Ru → Bool} : ∀ (l : List Ru) (s : Int × Int), (∀ r ∈ l, q r = true → r.kind = 4 ∨ r.kind = 5) → (l.foldl (zoomS q) s).2 = l.foldl (capS q) s.2
  | [], s, _ => rfl
  | r :: l, s, h => by
    rw [List.foldl_cons, List.foldl_cons, zoom_snd l _ fun r hr => h r (by simp [hr])]
    congr 1
    have hr := h r (by simp)
    unfold zoomS capS
    cases hq : q r with
    | false => simp
    | true =>
      rcases hr hq with h4 | h5
      · simp [h4]
      · simp [h5]
        omega
theorem cap_min {q : Ru → Bool} : ∀ (l : List Ru) (x y : Int), l.foldl (capS q) (min x y) = min x (l.foldl (capS q) y)
  | [], x, y => rfl
  | r :: l, x, y => by
    rw [List.foldl_cons, List.foldl_cons, ← cap_min l]
    congr 1
    unfold capS
    by_cases h : r.kind = 5 ∧ q r = true
    · simp only [h, true_and, and_true]
      split <;> split <;> omega
    · have h1 : ∀ z, ¬ (r.kind = 5 ∧ r.zoom < z ∧ q r = true) := fun z k => h ⟨k.1, k.2.2⟩
      rw [if_neg (h1 _), if_neg (h1 _)]
theorem allow_le {q : Ru → Bool} {M : Int} : ∀ (l : List Ru) (z : Int), (∀ r ∈ l, q r = true → r.zoom ≤ M) → z ≤ M → l.foldl (allowS q) z ≤ M
  | [], z, _, h => h
  | r :: l, z, hr, h => by
    rw [List.foldl_cons]
    refine allow_le l _ (fun r h => hr r (by simp [h])) ?_
    unfold allowS
    split
    · rename_i k
      exact hr r (by simp) k.2.2
    · exact h
theorem zoom_doc {q : Ru → Bool} {l : List Ru} (hk : ∀ r ∈ l, q r = true → r.kind = 4 ∨ r.kind = 5) (hz : ∀ r ∈ l, q r = true → r.zoom ≤ 16) : zoomL q l = zoomD q l := by
  unfold zoomL zoomD
  rw [zoom_fst l _ hk, zoom_snd l _ hk]
  have h := allow_le l 0 hz (by decide)
  simp only
  generalize l.foldl (allowS q) 0 = a at *
  rw [← cap_min, show min a 16 = a by omega]
end Go.Proofs.Ytmkeeghjpdnknaa
