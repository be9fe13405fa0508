/- What deeds do to one member hangs on that member alone. Plain law. -/
import Derived.Test.YthognfmmjkmjnaaSd
namespace Go.Proofs.Ythognfmmjkmjnaa
set_option linter.all false
open Go.RowKit AM

def atK (k : Int) (l : List Me) : List Me := l.filter fun x => decide (x.user = k)
theorem mf_none {k : Int} : ∀ {l : List Me} {n : Nat}, mfindMe k l n = none ↔ atK k l = []
  | [], n => by simp [mfindMe, atK]
  | x :: l, n => by
    unfold mfindMe atK
    by_cases h : k = x.user
    · simp [h]
    · have : ¬ x.user = k := fun e => h e.symm
      rw [if_neg h, List.filter_cons, if_neg (by simpa using this)]
      exact mf_none
theorem mf_some {k : Int} : ∀ {l : List Me} {n i : Nat} {x : Me}, mfindMe k l n = some (i, x) → ∃ pre post, l = pre ++ x :: post ∧ i = n + pre.length ∧ x.user = k ∧ atK k pre = []
  | y :: l, n, i, x, h => by
    unfold mfindMe at h
    split at h
    · rename_i e
      simp only [Option.some.injEq, Prod.mk.injEq] at h
      obtain ⟨rfl, rfl⟩ := h
      exact ⟨[], l, rfl, by simp, e.symm, rfl⟩
    · rename_i e
      obtain ⟨pre, post, rfl, rfl, h1, h2⟩ := mf_some h
      refine ⟨y :: pre, post, rfl, by simp; omega, h1, ?_⟩
      have : ¬ y.user = k := fun e' => e e'.symm
      unfold atK at h2 ⊢
      rw [List.filter_cons, if_neg (by simpa using this)]
      exact h2
theorem atK_app {k : Int} {l m : List Me} : atK k (l ++ m) = atK k l ++ atK k m := by simp [atK]
theorem atK_cons {k : Int} {x : Me} {l : List Me} : atK k (x :: l) = if x.user = k then x :: atK k l else atK k l := by
  unfold atK
  rw [List.filter_cons]
  by_cases h : x.user = k <;> simp [h]
/-- A member is found, and the rest. -/
theorem mf_view {k : Int} (l : List Me) : (mfindMe k l 0 = none ∧ atK k l = []) ∨ ∃ pre x post, l = pre ++ x :: post ∧ mfindMe k l 0 = some (pre.length, x) ∧ x.user = k ∧ atK k pre = [] ∧ atK k l = x :: atK k post := by
  cases h : mfindMe k l 0 with
  | none => exact .inl ⟨rfl, mf_none.1 h⟩
  | some p =>
    obtain ⟨i, x⟩ := p
    obtain ⟨pre, post, rfl, rfl, h1, h2⟩ := mf_some h
    refine .inr ⟨pre, x, post, rfl, by simp, h1, h2, ?_⟩
    rw [atK_app, h2, atK_cons, if_pos h1]
    rfl
theorem set_mid {α : Type} {pre post : List α} {x y : α} : (pre ++ x :: post).set pre.length y = pre ++ y :: post := by simp
theorem erase_mid {α : Type} {pre post : List α} {x : α} : (pre ++ x :: post).eraseIdx pre.length = pre ++ post := by
  rw [List.eraseIdx_append_of_length_le (Nat.le_refl _)]
  simp
/-- The member k among those that a deed leaves. -/
theorem turn_at {f : Me → Me × Int} (hu : ∀ x, (f x).1.user = x.user) (l : List Me) (k j : Int) : (j ≠ k → atK j (turnR f l k).1 = atK j l) ∧ (atK k (turnR f l k).1, (turnR f l k).2) = match atK k l with
    | [] => ([], 21)
    | x :: r => ((f x).1 :: r, (f x).2) := by
  rcases mf_view (k := k) l with ⟨h1, h2⟩ | ⟨pre, x, post, rfl, h1, h2, h3, h4⟩
  · unfold turnR
    rw [h1, h2]
    exact ⟨fun _ => rfl, by simp [h2]⟩
  · have e : turnR f (pre ++ x :: post) k = (pre ++ (f x).1 :: post, (f x).2) := by
      unfold turnR
      rw [h1]
      simp only [set_mid]
    rw [e, h4]
    refine ⟨fun hj => ?_, ?_⟩
    · have a1 : ¬ x.user = j := fun e => hj (e.symm.trans h2)
      rw [atK_app, atK_app, atK_cons, atK_cons, if_neg a1, if_neg (by rw [hu]; exact a1)]
    · simp only [atK_app, h3, atK_cons, if_pos ((hu x).trans h2)]
      rfl
theorem drop_at (l : List Me) (k j : Int) : (j ≠ k → atK j (dropR l k).1 = atK j l) ∧ (atK k (dropR l k).1, (dropR l k).2) = if k = 0 then (atK k l, (1 : Int)) else match atK k l with
    | [] => ([], (21 : Int))
    | _ :: r => (r, 0) := by
  unfold dropR
  by_cases hk : k = 0
  · simp [hk]
  rw [if_neg hk, if_neg hk]
  rcases mf_view (k := k) l with ⟨h1, h2⟩ | ⟨pre, x, post, rfl, h1, h2, h3, h4⟩
  · rw [h1, h2]
    exact ⟨fun _ => rfl, by simp [h2]⟩
  · rw [h1, h4]
    simp only [erase_mid]
    refine ⟨fun hj => ?_, ?_⟩
    · have a1 : ¬ x.user = j := fun e => hj (e.symm.trans h2)
      rw [atK_app, atK_app, atK_cons, if_neg a1]
    · rw [atK_app, h3]
      rfl
theorem enrol_at (l : List Me) (x : Me) (j : Int) : (j ≠ x.user → atK j (enrolR l x).1 = atK j l) ∧ (atK x.user (enrolR l x).1, (enrolR l x).2) = if x.right then (match atK x.user l with
    | [] => ([x], (0 : Int))
    | y :: r => (y :: r, (20 : Int))) else (atK x.user l, (1 : Int)) := by
  unfold enrolR
  by_cases hr : x.right = true
  rotate_left
  · rw [if_neg hr, if_neg hr]
    exact ⟨fun _ => rfl, rfl⟩
  rw [if_pos hr, if_pos hr]
  rcases mf_view (k := x.user) l with ⟨h1, h2⟩ | ⟨pre, y, post, rfl, h1, h2, h3, h4⟩
  · have : has x.user l = false := by unfold has; rw [h1]; rfl
    rw [this, h2]
    simp only [Bool.false_eq_true, if_false]
    refine ⟨fun hj => ?_, ?_⟩
    · rw [atK_app, atK_cons, if_neg (Ne.symm hj)]
      simp [atK]
    · rw [atK_app, h2, atK_cons, if_pos rfl]
      rfl
  · have : has x.user (pre ++ y :: post) = true := by unfold has; rw [h1]; rfl
    rw [this, h4]
    exact ⟨fun _ => rfl, by simp [h4]⟩
theorem does_other (l : List Me) (a : Deed) (j : Int) (h : j ≠ a.m.user) : atK j (doesR l a).1 = atK j l := by
  unfold doesR
  split
  · exact (enrol_at l a.m j).1 h
  split
  · exact (drop_at l _ j).1 h
  split
  · exact (turn_at (profR_user _ _ _) l _ j).1 h
  split
  · exact (turn_at (quotaR_user _ _) l _ j).1 h
  · exact (turn_at (spendR_user _) l _ j).1 h
theorem does_same (l l' : List Me) (a : Deed) (h : atK a.m.user l = atK a.m.user l') : (atK a.m.user (doesR l a).1, (doesR l a).2) = (atK a.m.user (doesR l' a).1, (doesR l' a).2) := by
  unfold doesR
  split
  · rw [(enrol_at l a.m 0).2, (enrol_at l' a.m 0).2, h]
  split
  · rw [(drop_at l _ 0).2, (drop_at l' _ 0).2, h]
  split
  · rw [(turn_at (profR_user _ _ _) l _ 0).2, (turn_at (profR_user _ _ _) l' _ 0).2, h]
  split
  · rw [(turn_at (quotaR_user _ _) l _ 0).2, (turn_at (quotaR_user _ _) l' _ 0).2, h]
  · rw [(turn_at (spendR_user _) l _ 0).2, (turn_at (spendR_user _) l' _ 0).2, h]
theorem find_at (l : List Me) (k : Int) : findR l k = match atK k l with
    | [] => (Me.none, false)
    | x :: _ => (x, true) := by
  unfold findR
  rcases mf_view (k := k) l with ⟨h1, h2⟩ | ⟨pre, y, post, rfl, h1, h2, h3, h4⟩
  · rw [h1, h2]
  · rw [h1, h4]
end Go.Proofs.Ythognfmmjkmjnaa
