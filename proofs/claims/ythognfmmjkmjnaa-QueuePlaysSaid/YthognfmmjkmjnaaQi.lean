/- A queue beside a row that says what it holds: what is done with both. -/
import Derived.Test.YthognfmmjkmjnaaQh
namespace Go.Proofs.Ythognfmmjkmjnaa
open Go.RowKit Go.ChangeShapes Go.WideShapes

/-- A queue at block q that holds hs; beside it a row, of no block of the queue's, that reads as xs. Nothing of what was there in W has turned. -/
def Play (W : World) (q : Nat) (hs xs : List Ent) (v : Value) (w : World) : Prop :=
  ∃ F, QS w q hs F ∧ (∀ b, F b → W.heap.size ≤ b) ∧ Sl w w.heap.size 3 Ent.cells v xs ∧ (∀ b o l c, v = .slice (some ⟨b, o, none⟩) l c → ¬ F b ∧ b < w.heap.size) ∧ Keep (fun b => W.heap.size ≤ b) W w

section
variable {W w w' : World} {q : Nat} {hs xs ys : List Ent} {v : Value}
theorem Play.below (h : Play W q hs xs v w) (hb : Below w.heap.size w w') : Play W q hs xs v w' := by
  obtain ⟨F, h1, h2, h3, h4, h5⟩ := h
  exact ⟨F, h1.below hb, h2, (h3.below hb).more hb.size, fun b o l c e => ⟨(h4 b o l c e).1, Nat.lt_of_lt_of_le (h4 b o l c e).2 hb.size⟩, h5.step (Keep.of_below hb (S := fun _ => False)) (fun _ _ h => h.elim)⟩
theorem Play.alloc (h : Play W q hs xs v w) (o : Obj) : Play W q hs xs v (w.alloc o) := h.below ((Below.refl _ _).alloc (Nat.le_refl _) o)
theorem Play.drew (h : Play W q hs xs v w) : Play W q hs xs v w.drew := h.below ⟨rfl, rfl, rfl, Nat.le_refl _, fun _ _ => rfl⟩
theorem Play.sl (h : Play W q hs xs v w) : Sl w w.heap.size 3 Ent.cells v xs := h.choose_spec.2.2.1
theorem Play.all (h : Play W q hs xs v w) : Below W.heap.size W w := by
  obtain ⟨F, _, _, _, _, h5⟩ := h
  exact h5.below (Nat.le_refl _) (fun k hk h => by omega)
/-- A row of no block of the queue's stays while the queue is turned. -/
theorem sl_keep {F : Nat → Prop} (h : Sl w w.heap.size 3 Ent.cells v xs) (hoff : ∀ b o l c, v = .slice (some ⟨b, o, none⟩) l c → ¬ F b ∧ b < w.heap.size) (k : Keep F w w') : Sl w' w'.heap.size 3 Ent.cells v xs := by
  obtain ⟨A, c, rfl, h1, h2, h3⟩ := h
  refine ⟨A, c, rfl, h1, h2, fun hn => ?_⟩
  obtain ⟨b, o, rfl, hb, hc⟩ := h3 hn
  refine ⟨b, o, rfl, Nat.lt_of_lt_of_le hb k.size, fun i x hx j u hu => ?_⟩
  rw [← hc i x hx j u hu]
  unfold World.cell?
  rw [k.block b hb (hoff b o _ _ rfl).1]
theorem Play.turn {F F' : Nat → Prop} (h2 : ∀ b, F b → W.heap.size ≤ b) (h3 : Sl w w.heap.size 3 Ent.cells v xs) (h4 : ∀ b o l c, v = .slice (some ⟨b, o, none⟩) l c → ¬ F b ∧ b < w.heap.size) (h5 : Keep (fun b => W.heap.size ≤ b) W w)
    (k1 : QS w' q ys F') (k2 : Keep F w w') (k3 : ∀ b, F' b → F b ∨ w.heap.size ≤ b) : Play W q ys xs v w' := by
  refine ⟨F', k1, fun b hb => ?_, sl_keep h3 h4 k2, fun b o l c e => ⟨fun hb => ?_, Nat.lt_of_lt_of_le (h4 b o l c e).2 k2.size⟩, h5.step k2 (fun b _ h => h2 b h)⟩
  · rcases k3 b hb with h | h
    · exact h2 b h
    · have := h5.size; omega
  · rcases k3 b hb with h | h
    · exact (h4 b o l c e).1 h
    · have := (h4 b o l c e).2; omega
/-- The row's rest. -/
theorem Play.rest {A : Option Addr} {L c n : Nat} (h : Play W q hs xs (.slice A L c) w) (hn : n ≤ xs.length) (A' : Option Addr) (hA : ∀ b o, A' = some ⟨b, o, none⟩ → ∃ o', A = some ⟨b, o', none⟩) (hA' : n < xs.length → ∀ b o, A = some ⟨b, o, none⟩ → A' = some ⟨b, o + n * 3, none⟩) :
    Play W q hs (xs.drop n) (.slice A' (L - n) (c - n)) w := by
  obtain ⟨F, h1, h2, ⟨A1, c1, e, g1, g2, g3⟩, h4, h5⟩ := h
  simp only [Value.slice.injEq] at e
  obtain ⟨rfl, rfl, rfl⟩ := e
  refine ⟨F, h1, h2, ⟨A', c - n, by rw [List.length_drop], by rw [List.length_drop]; omega, by omega, fun h0 => ?_⟩, fun b o l c' e => ?_, h5⟩
  · rw [List.length_drop] at h0
    obtain ⟨b, o, rfl, hb, hc⟩ := g3 (by omega)
    refine ⟨b, o + n * 3, hA' (by omega) b o rfl, hb, fun i x hx j u hu => ?_⟩
    rw [List.getElem?_drop] at hx
    rw [← hc (n + i) x hx j u hu]
    congr 2
    rw [Nat.add_mul]
    omega
  · simp only [Value.slice.injEq] at e
    obtain ⟨rfl, rfl, rfl⟩ := e
    obtain ⟨o', rfl⟩ := hA b o rfl
    exact h4 b o' _ _ rfl
end

theorem pNew (W : World) : Calls Try.prog 24 #[] W fun e w' => e = .returned (.pointer (some ⟨W.heap.size, 0, none⟩)) ∧ Play W W.heap.size [] [] (.slice none 0 0) w' := by
  refine (qNew W).mono ?_
  rintro e w' ⟨rfl, h1, h2⟩
  refine ⟨rfl, _, h1, fun b h => by omega, Sl.nil, fun b o l c e => by simp at e, Keep.of_below h2⟩
theorem pLen {W w : World} {q : Nat} {hs xs : List Ent} {v : Value} (h : Play W q hs xs v w) : Calls Try.prog 26 #[.pointer (some ⟨q, 0, none⟩)] w fun e w' => e = .returned (.int .i64 hs.length) ∧ w = w' := by
  obtain ⟨F, h1, _⟩ := h
  exact qLen q hs F w h1
theorem pTop {W w : World} {q : Nat} {x : Ent} {hs xs : List Ent} {v : Value} (h : Play W q (x :: hs) xs v w) : Calls Try.prog 25 #[.pointer (some ⟨q, 0, none⟩)] w fun e w' => e = .returned (.tuple #[x.val, .bool true]) ∧ Below w.heap.size w w' := by
  obtain ⟨F, h1, _⟩ := h
  exact qTop q x hs F w h1
theorem pTopEmpty {W w : World} {q : Nat} {xs : List Ent} {v : Value} (h : Play W q [] xs v w) : Calls Try.prog 25 #[.pointer (some ⟨q, 0, none⟩)] w fun e w' => e = .returned (.tuple #[zero.val, .bool false]) ∧ Below w.heap.size w w' := by
  obtain ⟨F, h1, _⟩ := h
  exact qTopEmpty q F w h1
theorem pPopEmpty {W w : World} {q : Nat} {xs : List Ent} {v : Value} (h : Play W q [] xs v w) : Calls Try.prog 29 #[.pointer (some ⟨q, 0, none⟩)] w fun e w' => e = .returned (.tuple #[zero.val, .bool false]) ∧ Play W q [] xs v w' := by
  have h' := h
  obtain ⟨F, h1, _⟩ := h
  refine (qPopEmpty q F w h1).mono ?_
  rintro e w' ⟨rfl, hb⟩
  exact ⟨rfl, h'.below hb⟩
theorem pPop {W w : World} {q : Nat} {x : Ent} {hs xs : List Ent} {v : Value} (h : Play W q (x :: hs) xs v w) (hm : hs.length ≤ 1000000) : Calls Try.prog 29 #[.pointer (some ⟨q, 0, none⟩)] w fun e w' => e = .returned (.tuple #[x.val, .bool true]) ∧ Play W q hs xs v w' := by
  obtain ⟨F, h1, h2, h3, h4, h5⟩ := h
  refine (qPop q x hs F w h1 hm).mono ?_
  rintro e w' ⟨rfl, F', k1, k2, k3⟩
  exact ⟨rfl, Play.turn h2 h3 h4 h5 k1 k2 k3⟩
theorem pPush {W w : World} {q : Nat} {hs xs : List Ent} {v : Value} (h : Play W q hs xs v w) (y : Ent) (hm : hs.length ≤ 1000000) : Calls Try.prog 27 #[.pointer (some ⟨q, 0, none⟩), y.val] w fun e w' => e = .returned (.bool true) ∧ Play W q (put hs y) xs v w' := by
  obtain ⟨F, h1, h2, h3, h4, h5⟩ := h
  refine (qPush q hs F w h1 y hm).mono ?_
  rintro e w' ⟨rfl, F', k1, k2, k3⟩
  exact ⟨rfl, Play.turn h2 h3 h4 h5 k1 k2 k3⟩
theorem pDrain {W w : World} {q : Nat} {hs xs : List Ent} {v : Value} (h : Play W q hs xs v w) (most : Int) (hm : hs.length ≤ 1000000) : Calls Try.prog 31 #[.pointer (some ⟨q, 0, none⟩), .int .i64 most] w fun e w' =>
    ∃ u, e = .returned u ∧ Sl w' w'.heap.size 3 Ent.cells u (hs.take most.toNat) ∧ Play W q (hs.drop most.toNat) xs v w' ∧ Keep (fun b => W.heap.size ≤ b) w w' := by
  obtain ⟨F, h1, h2, h3, h4, h5⟩ := h
  refine (qDrain q hs F w h1 most hm).mono ?_
  rintro e w' ⟨u, rfl, k0, F', k1, k2, k3⟩
  exact ⟨u, rfl, k0, Play.turn h2 h3 h4 h5 k1 k2 k3, k2.mono fun k _ h => h2 k h⟩
theorem pPut {W w : World} {q : Nat} {hs xs : List Ent} {v : Value} (h : Play W q hs xs v w) (y : Ent) (hm : xs.length ≤ 1000000) : Calls Try.prog 28 #[v, y.val] w fun e w' =>
    ∃ u, e = .returned u ∧ Play W q hs (put xs y) u w' := by
  obtain ⟨F, h1, h2, h3, h4, h5⟩ := h
  refine (rPutNew v xs y w h3 hm).mono ?_
  rintro e w' ⟨u, rfl, k0, k1, k2⟩
  refine ⟨u, rfl, _, h1.tight.below k1, fun b hb => h2 b hb.1, k0, fun b o l c e => ⟨fun hb => ?_, (k2 b o l c e).2⟩, h5.step (Keep.of_below k1 (S := fun _ => False)) (fun _ _ h => h.elim)⟩
  have := (k2 b o l c e).1
  have := hb.2
  omega
end Go.Proofs.Ythognfmmjkmjnaa
