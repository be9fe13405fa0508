/- Runs of a row by labels, rectangles with labels, and the one form that they have. Plain lemmas, no program in sight. -/
import Derived.Test.YtbcfoakceloenaaBase
import Derived.Test.YtbcfoakceloenaaAr1
import Derived.Lib.SlicesCompact
import Derived.Test.YtbcfoakceloenaaAw1
namespace Go.Proofs.Ytbcfoakceloenaa
set_option linter.all false
namespace Can
/-- A run of numbers with a label. -/
structure Run (L : Type) where
  a : Int
  b : Int
  z : L
  deriving DecidableEq, Inhabited
variable {L : Type} [DecidableEq L]
def sep (r s : Run L) : Prop := r.b < s.a ∧ (r.b + 1 = s.a → r.z ≠ s.z)
def hasR (R : List (Run L)) (x : Int) (z : L) : Prop := ∃ r ∈ R, r.a ≤ x ∧ x ≤ r.b ∧ r.z = z
/-- The runs of a labelling: apart, in order, no two of them one. -/
structure Can (f : Int → Option L) (R : List (Run L)) : Prop where
  le : ∀ r ∈ R, r.a ≤ r.b
  pw : R.Pairwise sep
  iff : ∀ x z, f x = some z ↔ hasR R x z

theorem hasR_cons {r : Run L} {R : List (Run L)} {x : Int} {z : L} : hasR (r :: R) x z ↔ (r.a ≤ x ∧ x ≤ r.b ∧ r.z = z) ∨ hasR R x z := by
  unfold hasR
  simp
theorem hasR_append {R S : List (Run L)} {x : Int} {z : L} : hasR (R ++ S) x z ↔ hasR R x z ∨ hasR S x z := by
  unfold hasR
  simp only [List.mem_append]
  constructor
  · rintro ⟨r, h | h, k⟩
    · exact .inl ⟨r, h, k⟩
    · exact .inr ⟨r, h, k⟩
  · rintro (⟨r, h, k⟩ | ⟨r, h, k⟩)
    · exact ⟨r, .inl h, k⟩
    · exact ⟨r, .inr h, k⟩
theorem Can.tail {f : Int → Option L} {r : Run L} {R : List (Run L)} (h : Can f (r :: R)) : Can (fun x => if x ≤ r.b then none else f x) R := by
  refine ⟨fun s hs => h.le s (List.mem_cons_of_mem _ hs), (List.pairwise_cons.1 h.pw).2, fun x z => ?_⟩
  have h1 := (List.pairwise_cons.1 h.pw).1
  by_cases hx : x ≤ r.b
  · simp only [hx, if_true]
    constructor
    · intro e; cases e
    · rintro ⟨s, hs, k1, k2, k3⟩
      have := (h1 s hs).1
      omega
  · simp only [hx, if_false]
    rw [h.iff, hasR_cons]
    constructor
    · rintro (⟨_, k, _⟩ | k)
      · exact absurd k hx
      · exact k
    · exact .inr
theorem Can.head {f : Int → Option L} {r : Run L} {R : List (Run L)} (h : Can f (r :: R)) : f r.a = some r.z := (h.iff _ _).2 (hasR_cons.2 (.inl ⟨Int.le_refl _, h.le r (by simp), rfl⟩))
theorem Can.ahead {f : Int → Option L} {r : Run L} {R : List (Run L)} (h : Can f (r :: R)) {x : Int} {z : L} (hx : f x = some z) : r.a ≤ x := by
  obtain ⟨s, hs, k1, k2, k3⟩ := (h.iff _ _).1 hx
  rcases List.mem_cons.1 hs with rfl | hs
  · exact k1
  · have := ((List.pairwise_cons.1 h.pw).1 s hs).1
    have := h.le r (by simp)
    omega
theorem Can.last_le {f : Int → Option L} {r s : Run L} {R S : List (Run L)} (h : Can f (r :: R)) (k : Can f (s :: S)) (ha : r.a = s.a) (hz : r.z = s.z) : s.b ≤ r.b := by
  apply Int.le_of_not_gt
  intro hlt
  have hs := k.le s (by simp)
  have hr := h.le r (by simp)
  have h1 : f (r.b + 1) = some r.z := (k.iff _ _).2 (hasR_cons.2 (.inl ⟨by omega, by omega, hz.symm⟩))
  obtain ⟨t, ht, t1, t2, t3⟩ := (h.iff _ _).1 h1
  rcases List.mem_cons.1 ht with rfl | ht
  · omega
  · obtain ⟨q1, q2⟩ := (List.pairwise_cons.1 h.pw).1 t ht
    exact q2 (by omega) t3.symm
theorem Can.uniq : ∀ {f : Int → Option L} {R S : List (Run L)}, Can f R → Can f S → R = S
  | f, [], [], _, _ => rfl
  | f, [], s :: S, h, k => by
    have := k.head
    rw [h.iff] at this
    obtain ⟨_, h, _⟩ := this
    cases h
  | f, r :: R, [], h, k => by
    have := h.head
    rw [k.iff] at this
    obtain ⟨_, h, _⟩ := this
    cases h
  | f, r :: R, s :: S, h, k => by
    have ha : r.a = s.a := by
      have h1 := h.ahead k.head
      have h2 := k.ahead h.head
      omega
    have hz : r.z = s.z := by
      have h1 := h.head
      have h2 := k.head
      rw [ha, h2] at h1
      exact (Option.some.inj h1).symm
    have hb : r.b = s.b := by
      have h1 := h.last_le k ha hz
      have h2 := k.last_le h ha.symm hz.symm
      omega
    have e : r = s := by
      cases r; cases s
      simp only at ha hz hb
      subst ha hz hb
      rfl
    subst e
    rw [Can.uniq h.tail k.tail]

/-! ## How runs come to be, from cut to cut -/
def push (R : List (Run L)) (n m : Int) (z : L) : List (Run L) := match R.getLast? with
  | some r => if r.b + 1 = n ∧ r.z = z then R.dropLast ++ [⟨r.a, m - 1, z⟩] else R ++ [⟨n, m - 1, z⟩]
  | none => [⟨n, m - 1, z⟩]
def step (f : Int → Option L) (R : List (Run L)) (n m : Int) : List (Run L) := match f n with
  | some z => push R n m z
  | none => R
/-- The runs below a bound. -/
def CanTo (f : Int → Option L) (n : Int) (R : List (Run L)) : Prop := Can (fun x => if x < n then f x else none) R
theorem CanTo.lt {f : Int → Option L} {n : Int} {R : List (Run L)} (h : CanTo f n R) : ∀ r ∈ R, r.b < n := by
  intro r hr
  have := (h.iff r.b r.z).2 ⟨r, hr, h.le r hr, Int.le_refl _, rfl⟩
  try simp only at this
  split at this
  · assumption
  · cases this
theorem CanTo.none {f : Int → Option L} {n m : Int} {R : List (Run L)} (h : CanTo f n R) (hn : ∀ x, n ≤ x → x < m → f x = none) (hm : n ≤ m) : CanTo f m R := by
  refine ⟨h.le, h.pw, fun x z => ?_⟩
  rw [← h.iff]
  try simp only
  by_cases h1 : x < n
  · rw [if_pos h1, if_pos (by omega)]
  · rw [if_neg h1]
    by_cases h2 : x < m
    · rw [if_pos h2, hn x (by omega) h2]
    · rw [if_neg h2]
theorem CanTo.fresh {f : Int → Option L} {n m : Int} {z : L} {R : List (Run L)} (h : CanTo f n R) (hn : ∀ x, n ≤ x → x < m → f x = some z) (hm : n < m) (hl : ∀ r ∈ R, r.b + 1 = n → r.z ≠ z) : CanTo f m (R ++ [⟨n, m - 1, z⟩]) := by
  refine ⟨fun r hr => ?_, ?_, fun x u => ?_⟩
  · rcases List.mem_append.1 hr with hr | hr
    · exact h.le r hr
    · simp at hr; subst hr; simp only; omega
  · rw [List.pairwise_append]
    refine ⟨h.pw, by simp, fun r hr s hs => ?_⟩
    simp at hs
    subst hs
    exact ⟨h.lt r hr, hl r hr⟩
  · rw [hasR_append, ← h.iff]
    simp only [hasR, List.mem_singleton, exists_eq_left]
    by_cases h1 : x < n
    · rw [if_pos h1, if_pos (by omega)]
      constructor
      · exact .inl
      · rintro (k | ⟨k, _⟩)
        · exact k
        · omega
    · rw [if_neg h1]
      by_cases h2 : x < m
      · rw [if_pos h2, hn x (by omega) h2]
        constructor
        · intro e; cases e; exact .inr ⟨by omega, by omega, rfl⟩
        · rintro (k | ⟨_, _, rfl⟩)
          · cases k
          · rfl
      · rw [if_neg h2]
        constructor
        · intro e; cases e
        · rintro (k | ⟨_, k, _⟩)
          · cases k
          · omega
theorem CanTo.more {f : Int → Option L} {n m : Int} {r : Run L} {R : List (Run L)} (h : CanTo f n (R ++ [r])) (hb : r.b + 1 = n) (hn : ∀ x, n ≤ x → x < m → f x = some r.z) (hm : n < m) : CanTo f m (R ++ [⟨r.a, m - 1, r.z⟩]) := by
  have hr := h.le r (by simp)
  obtain ⟨p1, _, p3⟩ := List.pairwise_append.1 h.pw
  refine ⟨fun s hs => ?_, ?_, fun x u => ?_⟩
  · rcases List.mem_append.1 hs with hs | hs
    · exact h.le s (by simp [hs])
    · simp at hs; subst hs; simp only; omega
  · rw [List.pairwise_append]
    refine ⟨p1, by simp, fun t ht s hs => ?_⟩
    simp at hs
    subst hs
    exact p3 t ht r (by simp)
  · have hi := h.iff x u
    rw [hasR_append] at hi ⊢
    simp only [hasR, List.mem_singleton, exists_eq_left] at hi ⊢
    by_cases h1 : x < n
    · rw [if_pos h1] at hi
      rw [if_pos (by omega), hi]
      constructor
      · rintro (k | ⟨k1, k2, k3⟩)
        · exact .inl k
        · exact .inr ⟨k1, by omega, k3⟩
      · rintro (k | ⟨k1, k2, k3⟩)
        · exact .inl k
        · exact .inr ⟨k1, by omega, k3⟩
    · rw [if_neg h1] at hi
      have hno : ¬ ∃ s ∈ R, s.a ≤ x ∧ x ≤ s.b ∧ s.z = u := by
        intro k
        have := hi.2 (.inl k)
        cases this
      by_cases h2 : x < m
      · rw [if_pos h2, hn x (by omega) h2]
        constructor
        · intro e; cases e; exact .inr ⟨by omega, by omega, rfl⟩
        · rintro (k | ⟨_, _, rfl⟩)
          · exact absurd k hno
          · rfl
      · rw [if_neg h2]
        constructor
        · intro e; cases e
        · rintro (k | ⟨_, k, _⟩)
          · exact absurd k hno
          · omega
theorem CanTo.push {f : Int → Option L} {n m : Int} {z : L} {R : List (Run L)} (h : CanTo f n R) (hn : ∀ x, n ≤ x → x < m → f x = some z) (hm : n < m) : CanTo f m (push R n m z) := by
  rcases List.eq_nil_or_concat R with rfl | ⟨R', r, rfl⟩
  · exact h.fresh hn hm (by simp)
  · unfold Can.push
    simp only [List.concat_eq_append] at h ⊢
    simp only [List.getLast?_append, List.getLast?_singleton, Option.some_or, List.dropLast_concat]
    split
    · rename_i hc
      obtain ⟨h1, rfl⟩ := hc
      exact h.more h1 hn hm
    · rename_i hc
      refine h.fresh hn hm fun s hs hb => ?_
      rcases List.mem_append.1 hs with hs | hs
      · obtain ⟨_, _, p3⟩ := List.pairwise_append.1 h.pw
        have := (p3 s hs r (by simp)).1
        have := h.lt r (by simp)
        have := h.le r (by simp)
        omega
      · simp at hs
        subst hs
        exact fun e => hc ⟨hb, e⟩
theorem CanTo.step {f : Int → Option L} {n m : Int} {R : List (Run L)} (h : CanTo f n R) (hn : ∀ x, n ≤ x → x < m → f x = f n) (hm : n < m) : CanTo f m (step f R n m) := by
  unfold Can.step
  split
  · rename_i z hz
    exact h.push (fun x h1 h2 => (hn x h1 h2).trans hz) hm
  · rename_i hz
    exact h.none (fun x h1 h2 => (hn x h1 h2).trans hz) (by omega)

/-- The runs behind some cuts. -/
def runsK (f : Int → Option L) (xs : List Int) : Nat → List (Run L)
  | 0 => []
  | k + 1 => match xs[k]?, xs[k + 1]? with
    | some n, some m => step f (runsK f xs k) n m
    | _, _ => runsK f xs k
theorem runsK_succ {f : Int → Option L} {xs : List Int} {k : Nat} (h : k + 1 < xs.length) : runsK f xs (k + 1) = step f (runsK f xs k) xs[k] xs[k + 1] := by
  have h1 : xs[k]? = some xs[k] := List.getElem?_eq_getElem (by omega)
  have h2 : xs[k + 1]? = some xs[k + 1] := List.getElem?_eq_getElem h
  rw [runsK, h1, h2]
/-- All that a labelling hangs on is which cuts are passed. -/
structure Cuts (f : Int → Option L) (xs : List Int) : Prop where
  lt : xs.Pairwise (· < ·)
  same : ∀ x y, (∀ c ∈ xs, c ≤ x ↔ c ≤ y) → f x = f y
  low : ∀ x, (∀ c ∈ xs, ¬ c ≤ x) → f x = none
  high : ∀ x, (∀ c ∈ xs, c ≤ x) → f x = none
theorem pair_lt {xs : List Int} (h : xs.Pairwise (· < ·)) {i j : Nat} (hi : i < xs.length) (hj : j < xs.length) (hij : i < j) : xs[i] < xs[j] := (List.pairwise_iff_getElem.1 h) i j hi hj hij
theorem Cuts.between {f : Int → Option L} {xs : List Int} (h : Cuts f xs) {k : Nat} (hk : k + 1 < xs.length) {x : Int} (h1 : xs[k] ≤ x) (h2 : x < xs[k + 1]) : f x = f xs[k] := by
  refine h.same _ _ fun c hc => ?_
  obtain ⟨i, hi, rfl⟩ := List.getElem_of_mem hc
  by_cases hik : i ≤ k
  · have : xs[i] ≤ xs[k] := by
      by_cases e : i = k
      · subst e; exact Int.le_refl _
      · exact Int.le_of_lt (pair_lt h.lt hi (by omega) (by omega))
    omega
  · have : xs[k + 1] ≤ xs[i] := by
      by_cases e : i = k + 1
      · subst e; exact Int.le_refl _
      · exact Int.le_of_lt (pair_lt h.lt hk hi (by omega))
    have := pair_lt h.lt (i := k) (j := k + 1) (by omega) hk (by omega)
    omega
theorem Cuts.to {f : Int → Option L} {xs : List Int} (h : Cuts f xs) : ∀ {k : Nat} (hk : k < xs.length), CanTo f xs[k] (runsK f xs k)
  | 0, hk => by
    refine ⟨by simp [runsK], by simp [runsK], fun x z => ?_⟩
    constructor
    · intro e
      try simp only at e
      split at e
      · rename_i hlt
        rw [h.low x (fun c hc => ?_)] at e
        · cases e
        · obtain ⟨i, hi, rfl⟩ := List.getElem_of_mem hc
          by_cases e0 : i = 0
          · subst e0; omega
          · have := pair_lt h.lt hk hi (by omega)
            omega
      · cases e
    · rintro ⟨_, k, _⟩
      cases k
  | k + 1, hk => by
    rw [runsK_succ hk]
    exact (h.to (k := k) (by omega)).step (fun x h1 h2 => h.between hk h1 h2) (pair_lt h.lt (by omega) hk (by omega))
theorem Cuts.can {f : Int → Option L} {xs : List Int} (h : Cuts f xs) : Can f (runsK f xs (xs.length - 1)) := by
  cases hl : xs.length with
  | zero =>
    have hx : xs = [] := List.eq_nil_of_length_eq_zero hl
    subst hx
    refine ⟨by simp [runsK], by simp [runsK], fun x z => ?_⟩
    rw [h.low x (by simp)]
    constructor
    · intro e; cases e
    · rintro ⟨_, k, _⟩; cases k
  | succ n =>
    have h1 := h.to (k := n) (by omega)
    rw [Nat.add_sub_cancel]
    refine ⟨h1.le, h1.pw, fun x z => ?_⟩
    rw [← h1.iff]
    try simp only
    by_cases hx : x < xs[n]
    · rw [if_pos hx]
    · rw [if_neg hx, h.high x fun c hc => ?_]
      obtain ⟨i, hi, rfl⟩ := List.getElem_of_mem hc
      by_cases e : i = n
      · subst e; omega
      · have := pair_lt h.lt hi (show n < xs.length by omega) (by omega)
        omega
/-! ## What runs tell -/
theorem Can.nil_of {f : Int → Option L} (h : ∀ x, f x = none) : Can f ([] : List (Run L)) :=
  ⟨by simp, by simp, fun x z => ⟨fun e => (by rw [h] at e; cases e), fun ⟨_, k, _⟩ => (by cases k)⟩⟩
theorem Can.none_of {f : Int → Option L} (h : Can f ([] : List (Run L))) (x : Int) : f x = none := by
  cases hx : f x with
  | none => rfl
  | some z => obtain ⟨_, k, _⟩ := (h.iff x z).1 hx; cases k
end Can
end Go.Proofs.Ytbcfoakceloenaa
namespace Go.Proofs.Ytbcfoakceloenaa
set_option linter.all false
namespace Can
/-- A rectangle with a label. -/
structure Rc (L : Type) where
  x0 : Int
  y0 : Int
  x1 : Int
  y1 : Int
  z : L
  deriving DecidableEq, Inhabited
variable {L : Type} [DecidableEq L]
def bandF (R : Int → List (Run L)) (y : Int) : Option (List (Run L)) := if R y = [] then none else some (R y)
def rect (y0 y1 : Int) (r : Run L) : Rc L := ⟨r.a, y0, r.b, y1, r.z⟩
def band (b : Run (List (Run L))) : List (Rc L) := b.z.map (rect b.a b.b)
def emit (B : List (Run (List (Run L)))) : List (Rc L) := B.flatMap band
def Rows (F : Int → Int → Option L) (R : Int → List (Run L)) : Prop := ∀ y, Can (fun x => F x y) (R y)
/-- The form of a labelling of points. -/
def Form (F : Int → Int → Option L) (out : List (Rc L)) : Prop := ∃ R B, Rows F R ∧ Can (bandF R) B ∧ out = emit B
theorem Form.uniq {F : Int → Int → Option L} {o o' : List (Rc L)} (h : Form F o) (k : Form F o') : o = o' := by
  obtain ⟨R, B, h1, h2, rfl⟩ := h
  obtain ⟨R', B', k1, k2, rfl⟩ := k
  have e : R = R' := funext fun y => (h1 y).uniq (k1 y)
  subst e
  rw [h2.uniq k2]
def atR (q : Rc L) (x y : Int) : Prop := q.x0 ≤ x ∧ x ≤ q.x1 ∧ q.y0 ≤ y ∧ y ≤ q.y1
theorem mem_emit {B : List (Run (List (Run L)))} {q : Rc L} : q ∈ emit B ↔ ∃ b ∈ B, ∃ r ∈ b.z, q = rect b.a b.b r := by
  unfold emit band
  simp only [List.mem_flatMap, List.mem_map]
  constructor
  · rintro ⟨b, h1, r, h2, rfl⟩; exact ⟨b, h1, r, h2, rfl⟩
  · rintro ⟨b, h1, r, h2, rfl⟩; exact ⟨b, h1, r, h2, rfl⟩
theorem band_row {R : Int → List (Run L)} {B : List (Run (List (Run L)))} (h : Can (bandF R) B) {b : Run (List (Run L))} (hb : b ∈ B) {y : Int} (h1 : b.a ≤ y) (h2 : y ≤ b.b) : R y = b.z ∧ b.z ≠ [] := by
  have := (h.iff y b.z).2 ⟨b, hb, h1, h2, rfl⟩
  unfold bandF at this
  split at this
  · cases this
  · rename_i hn
    have e := Option.some.inj this
    exact ⟨e, by rw [← e]; exact hn⟩
theorem Form.iff {F : Int → Int → Option L} {o : List (Rc L)} (h : Form F o) (x y : Int) (z : L) : F x y = some z ↔ ∃ q ∈ o, atR q x y ∧ q.z = z := by
  obtain ⟨R, B, h1, h2, rfl⟩ := h
  constructor
  · intro e
    obtain ⟨r, hr, k1, k2, k3⟩ := ((h1 y).iff x z).1 e
    have hn : R y ≠ [] := fun e' => by rw [e'] at hr; cases hr
    obtain ⟨b, hb, q1, q2, q3⟩ := (h2.iff y (R y)).1 (by unfold bandF; rw [if_neg hn])
    exact ⟨rect b.a b.b r, mem_emit.2 ⟨b, hb, r, by rw [q3]; exact hr, rfl⟩, ⟨k1, k2, q1, q2⟩, k3⟩
  · rintro ⟨q, hq, ⟨k1, k2, k3, k4⟩, rfl⟩
    obtain ⟨b, hb, r, hr, rfl⟩ := mem_emit.1 hq
    obtain ⟨e, _⟩ := band_row h2 hb (y := y) k3 k4
    exact ((h1 y).iff x r.z).2 ⟨r, by rw [e]; exact hr, k1, k2, rfl⟩
theorem Form.le {F : Int → Int → Option L} {o : List (Rc L)} (h : Form F o) {q : Rc L} (hq : q ∈ o) : q.x0 ≤ q.x1 ∧ q.y0 ≤ q.y1 := by
  obtain ⟨R, B, h1, h2, rfl⟩ := h
  obtain ⟨b, hb, r, hr, rfl⟩ := mem_emit.1 hq
  have hbb := h2.le b hb
  obtain ⟨e, _⟩ := band_row h2 hb (y := b.a) (Int.le_refl _) hbb
  have := (h1 b.a).le r (by rw [e]; exact hr)
  exact ⟨this, hbb⟩
/-- A form's corners count. -/
theorem Form.corner {F : Int → Int → Option L} {o : List (Rc L)} (h : Form F o) {q : Rc L} (hq : q ∈ o) : F q.x0 q.y0 = some q.z ∧ F q.x1 q.y1 = some q.z := by
  have := h.le hq
  exact ⟨(h.iff _ _ _).2 ⟨q, hq, ⟨Int.le_refl _, this.1, Int.le_refl _, this.2⟩, rfl⟩, (h.iff _ _ _).2 ⟨q, hq, ⟨this.1, Int.le_refl _, this.2, Int.le_refl _⟩, rfl⟩⟩
theorem Form.apart {F : Int → Int → Option L} {o : List (Rc L)} (h : Form F o) : o.Pairwise fun p q => p.x1 < q.x0 ∨ p.y1 < q.y0 := by
  obtain ⟨R, B, h1, h2, rfl⟩ := h
  unfold emit
  rw [List.flatMap_def, List.pairwise_flatten]
  refine ⟨fun l hl => ?_, ?_⟩
  · obtain ⟨b, hb, rfl⟩ := List.mem_map.1 hl
    unfold band
    rw [List.pairwise_map]
    obtain ⟨e, _⟩ := band_row h2 hb (y := b.a) (Int.le_refl _) (h2.le b hb)
    rw [← e]
    exact (h1 b.a).pw.imp fun h => .inl h.1
  · rw [List.pairwise_map]
    refine h2.pw.imp fun {b c} hbc p hp q hq => ?_
    obtain ⟨r, _, rfl⟩ := List.mem_map.1 hp
    obtain ⟨s, _, rfl⟩ := List.mem_map.1 hq
    exact .inr hbc.1
theorem Form.nil_iff {F : Int → Int → Option L} {o : List (Rc L)} (h : Form F o) : o = [] ↔ ∀ x y, F x y = none := by
  constructor
  · rintro rfl x y
    cases hz : F x y with
    | none => rfl
    | some z => obtain ⟨_, hq, _⟩ := (h.iff x y z).1 hz; cases hq
  · intro hn
    cases o with
    | nil => rfl
    | cons q o =>
      have := (h.corner (q := q) (by simp)).1
      rw [hn] at this
      cases this
/-! ## Sums over numbers -/
def sumN (g : Int → Nat) : Nat → Nat
  | 0 => 0
  | n + 1 => sumN g n + g n
theorem sumN_congr {g h : Int → Nat} : ∀ {n : Nat}, (∀ k : Nat, k < n → g k = h k) → sumN g n = sumN h n
  | 0, _ => rfl
  | n + 1, e => by rw [sumN, sumN, sumN_congr (fun k hk => e k (by omega)), e n (by omega)]
theorem sumN_add {g h : Int → Nat} : ∀ {n : Nat}, sumN (fun x => g x + h x) n = sumN g n + sumN h n
  | 0 => rfl
  | n + 1 => by rw [sumN, sumN, sumN, sumN_add]; omega
theorem sumN_zero : ∀ {n : Nat}, sumN (fun _ => 0) n = 0
  | 0 => rfl
  | n + 1 => by rw [sumN, sumN_zero]
theorem sumN_le {g h : Int → Nat} : ∀ {n : Nat}, (∀ k : Nat, k < n → g k ≤ h k) → sumN g n ≤ sumN h n
  | 0, _ => Nat.le_refl _
  | n + 1, e => by
    rw [sumN, sumN]
    have := sumN_le (n := n) (fun k hk => e k (by omega))
    have := e n (by omega)
    omega
theorem sumN_const {c : Nat} : ∀ {n : Nat}, sumN (fun _ => c) n = n * c
  | 0 => by simp [sumN]
  | n + 1 => by rw [sumN, sumN_const, Nat.succ_mul]
/-- If one sum is no less, all its parts are as great. -/
theorem sumN_tight {g h : Int → Nat} : ∀ {n : Nat}, (∀ k : Nat, k < n → g k ≤ h k) → sumN h n ≤ sumN g n → ∀ k : Nat, k < n → g k = h k
  | 0, _, _, k, hk => by omega
  | n + 1, e, hs, k, hk => by
    rw [sumN, sumN] at hs
    have h1 := sumN_le (n := n) (fun k hk => e k (by omega))
    have h2 := e n (by omega)
    by_cases hkn : k = n
    · subst hkn; omega
    · exact sumN_tight (n := n) (fun k hk => e k (by omega)) (by omega) k (by omega)
theorem sumN_box {a b : Int} {c : Nat} (h0 : 0 ≤ a) (hab : a ≤ b) : ∀ {n : Nat}, sumN (fun x => if a ≤ x ∧ x ≤ b then c else 0) n = (min (n : Int) (b + 1) - min (n : Int) a).toNat * c
  | 0 => by
    have : (min ((0 : Nat) : Int) (b + 1) - min ((0 : Nat) : Int) a).toNat = 0 := by omega
    rw [sumN, this, Nat.zero_mul]
  | n + 1 => by
    rw [sumN, sumN_box h0 hab (n := n)]
    by_cases h : a ≤ (n : Int) ∧ (n : Int) ≤ b
    · rw [if_pos h, ← Nat.succ_mul]
      congr 1
      omega
    · rw [if_neg h, Nat.add_zero]
      congr 1
      omega
theorem sumN_in {a b : Int} {c n : Nat} (h0 : 0 ≤ a) (hab : a ≤ b) (hb : b < n) : sumN (fun x => if a ≤ x ∧ x ≤ b then c else 0) n = (b - a + 1).toNat * c := by
  rw [sumN_box h0 hab]
  congr 1
  omega
def wgt (w : L → Nat) : Option L → Nat
  | some z => w z
  | none => 0
def lens (w : L → Nat) (R : List (Run L)) : Nat := (R.map fun r => (r.b - r.a + 1).toNat * w r.z).sum
theorem Can.lens_eq {w : L → Nat} {n : Nat} : ∀ {R : List (Run L)} {f : Int → Option L}, Can f R → (∀ r ∈ R, 0 ≤ r.a ∧ r.b < n) → lens w R = sumN (fun x => wgt w (f x)) n
  | [], f, h, _ => by
    rw [sumN_congr (h := fun _ => 0) (fun k _ => by rw [h.none_of]; rfl), sumN_zero]
    rfl
  | r :: R, f, h, hb => by
    obtain ⟨b1, b2⟩ := hb r (by simp)
    have hr := h.le r (by simp)
    have ih := Can.lens_eq (w := w) (n := n) h.tail (fun s hs => hb s (by simp [hs]))
    have e : lens w (r :: R) = (r.b - r.a + 1).toNat * w r.z + lens w R := by simp [lens]
    rw [e, ih, ← sumN_in (c := w r.z) b1 hr b2, ← sumN_add]
    refine sumN_congr fun k _ => ?_
    by_cases h1 : r.a ≤ (k : Int) ∧ (k : Int) ≤ r.b
    · have : f k = some r.z := (h.iff _ _).2 (hasR_cons.2 (.inl ⟨h1.1, h1.2, rfl⟩))
      rw [if_pos h1, if_pos h1.2, this]
      rfl
    · rw [if_neg h1, Nat.zero_add]
      by_cases h2 : (k : Int) ≤ r.b
      · rw [if_pos h2]
        cases hf : f k with
        | none => rfl
        | some z =>
          have := h.ahead hf
          omega
      · rw [if_neg h2]
/-- How many points of a square count, each by its label. -/
def total (w : L → Nat) (F : Int → Int → Option L) (n : Nat) : Nat := sumN (fun y => sumN (fun x => wgt w (F x y)) n) n
def rcArea (q : Rc L) : Nat := (q.x1 - q.x0 + 1).toNat * (q.y1 - q.y0 + 1).toNat
def areas (w : L → Nat) (o : List (Rc L)) : Nat := (o.map fun q => rcArea q * w q.z).sum
theorem areas_append {w : L → Nat} {o o' : List (Rc L)} : areas w (o ++ o') = areas w o + areas w o' := by simp [areas]
theorem areas_band {w : L → Nat} (y0 y1 : Int) : ∀ (R : List (Run L)), areas w (R.map (rect y0 y1)) = (y1 - y0 + 1).toNat * lens w R
  | [] => by simp [areas, lens]
  | r :: R => by
    have ih := areas_band (w := w) y0 y1 R
    have e1 : areas w ((r :: R).map (rect y0 y1)) = rcArea (rect y0 y1 r) * w r.z + areas w (R.map (rect y0 y1)) := by simp [areas]; rfl
    have e2 : lens w (r :: R) = (r.b - r.a + 1).toNat * w r.z + lens w R := by simp [lens]
    rw [e1, e2, ih, Nat.mul_add]
    simp only [rcArea, rect]
    rw [Nat.mul_comm (r.b - r.a + 1).toNat, Nat.mul_assoc]
theorem areas_emit {w : L → Nat} : ∀ (B : List (Run (List (Run L)))), areas w (emit B) = lens (fun R => lens w R) B
  | [] => by simp [areas, lens, emit]
  | b :: B => by
    have ih := areas_emit (w := w) B
    have e1 : emit (b :: B) = band b ++ emit B := by simp [emit]
    have e2 : lens (fun R => lens w R) (b :: B) = (b.b - b.a + 1).toNat * lens w b.z + lens (fun R => lens w R) B := by simp [lens]
    rw [e1, e2, areas_append, ih, band, areas_band]
theorem Form.area_eq {F : Int → Int → Option L} {o : List (Rc L)} {w : L → Nat} {n : Nat} (h : Form F o) (hin : ∀ x y z, F x y = some z → (0 ≤ x ∧ x < n) ∧ 0 ≤ y ∧ y < n) : Can.areas w o = total w F n := by
  have hc := fun q (hq : q ∈ o) => h.corner hq
  obtain ⟨R, B, h1, h2, rfl⟩ := h
  rw [areas_emit, Can.lens_eq (n := n) h2]
  · refine sumN_congr fun y hy => ?_
    have hrow : ∀ r ∈ R y, 0 ≤ r.a ∧ r.b < n := fun r hr => by
      have hle := (h1 y).le r hr
      have q1 := hin _ _ _ (((h1 y).iff r.a r.z).2 ⟨r, hr, Int.le_refl _, hle, rfl⟩)
      have q2 := hin _ _ _ (((h1 y).iff r.b r.z).2 ⟨r, hr, hle, Int.le_refl _, rfl⟩)
      omega
    rw [← Can.lens_eq (n := n) (h1 y) hrow]
    unfold bandF
    split
    · rename_i hn
      rw [hn]
      rfl
    · rfl
  · intro b hb
    have hle := h2.le b hb
    obtain ⟨e1, hn⟩ := band_row h2 hb (y := b.a) (Int.le_refl _) hle
    obtain ⟨r, hr⟩ := List.exists_mem_of_ne_nil _ hn
    have := hc _ (mem_emit.2 ⟨b, hb, r, hr, rfl⟩)
    have q1 := hin _ _ _ this.1
    have q2 := hin _ _ _ this.2
    simp only [rect] at q1 q2
    omega
/-! ## Forms from cuts -/
/-- All that a labelling of points hangs on is which cuts are passed. -/
structure Cuts2 (F : Int → Int → Option L) (xs ys : List Int) : Prop where
  row : ∀ y, Cuts (fun x => F x y) xs
  lt : ys.Pairwise (· < ·)
  same : ∀ x y y', (∀ c ∈ ys, c ≤ y ↔ c ≤ y') → F x y = F x y'
  low : ∀ x y, (∀ c ∈ ys, ¬ c ≤ y) → F x y = none
  high : ∀ x y, (∀ c ∈ ys, c ≤ y) → F x y = none
def rowK (F : Int → Int → Option L) (xs : List Int) (y : Int) : List (Run L) := runsK (fun x => F x y) xs (xs.length - 1)
theorem Cuts2.rows {F : Int → Int → Option L} {xs ys : List Int} (h : Cuts2 F xs ys) : Rows F (rowK F xs) := fun y => (h.row y).can
theorem Rows.congr {F : Int → Int → Option L} {R : Int → List (Run L)} (h : Rows F R) {y y' : Int} (e : ∀ x, F x y = F x y') : R y = R y' := by
  have h1 := h y
  have e' : (fun x => F x y) = fun x => F x y' := funext e
  rw [e'] at h1
  exact h1.uniq (h y')
theorem Rows.none {F : Int → Int → Option L} {R : Int → List (Run L)} (h : Rows F R) {y : Int} (e : ∀ x, F x y = none) : R y = [] := (h y).uniq (Can.nil_of e)
/-- The cuts of rows alone. -/
structure CutsY (F : Int → Int → Option L) (ys : List Int) : Prop where
  lt : ys.Pairwise (· < ·)
  same : ∀ x y y', (∀ c ∈ ys, c ≤ y ↔ c ≤ y') → F x y = F x y'
  low : ∀ x y, (∀ c ∈ ys, ¬ c ≤ y) → F x y = none
  high : ∀ x y, (∀ c ∈ ys, c ≤ y) → F x y = none
theorem CutsY.bands {F : Int → Int → Option L} {R : Int → List (Run L)} {ys : List Int} (h : CutsY F ys) (hR : Rows F R) : Cuts (bandF R) ys := by
  refine ⟨h.lt, fun y y' hy => ?_, fun y hy => ?_, fun y hy => ?_⟩
  · unfold bandF
    rw [hR.congr (fun x => h.same x y y' hy)]
  · unfold bandF
    rw [if_pos (hR.none fun x => h.low x y hy)]
  · unfold bandF
    rw [if_pos (hR.none fun x => h.high x y hy)]
theorem CutsY.form {F : Int → Int → Option L} {R : Int → List (Run L)} {ys : List Int} (h : CutsY F ys) (hR : Rows F R) : Form F (emit (runsK (bandF R) ys (ys.length - 1))) := ⟨R, _, hR, (h.bands hR).can, rfl⟩
end Can
end Go.Proofs.Ytbcfoakceloenaa
namespace Go.Proofs.Ytbcfoakceloenaa
set_option linter.all false
open Go.RowKit AM
/-- One element is turned. -/
def modN {α : Type} (f : α → α) : Nat → List α → List α
  | _, [] => []
  | 0, x :: xs => f x :: xs
  | k + 1, x :: xs => x :: modN f k xs
theorem modN_len {α : Type} {f : α → α} : ∀ {k : Nat} {xs : List α}, (modN f k xs).length = xs.length
  | _, [] => by cases ‹Nat› <;> rfl
  | 0, x :: xs => rfl
  | k + 1, x :: xs => by simp [modN, modN_len]
theorem modN_get {α : Type} {f : α → α} : ∀ {k j : Nat} {xs : List α}, (modN f k xs)[j]? = if j = k then xs[j]?.map f else xs[j]?
  | k, j, [] => by cases k <;> simp [modN]
  | 0, 0, x :: xs => by simp [modN]
  | 0, j + 1, x :: xs => by simp [modN]
  | k + 1, 0, x :: xs => by simp [modN]
  | k + 1, j + 1, x :: xs => by simp [modN, modN_get]
theorem modN_last {α : Type} {f : α → α} {xs : List α} {x : α} : modN f xs.length (xs ++ [x]) = xs ++ [f x] := by
  induction xs with
  | nil => rfl
  | cons y ys ih => simp [modN, ih]
theorem flat_mod {α : Type} {enc : α → List V} {sz o : Nat} {v : V} {f : α → α} (hsz : ∀ x, (enc x).length = sz) (ho : o < sz) (hf : ∀ x, (enc x).set o v = enc (f x)) : ∀ {k : Nat} {xs : List α}, k < xs.length → (xs.flatMap enc).set (k * sz + o) v = (modN f k xs).flatMap enc
  | _, [], h => by simp at h
  | 0, x :: xs, _ => by
    rw [List.flatMap_cons, modN, List.flatMap_cons, Nat.zero_mul, Nat.zero_add, List.set_append_left _ _ (by rw [hsz]; exact ho), hf]
  | k + 1, x :: xs, h => by
    rw [List.flatMap_cons, modN, List.flatMap_cons, List.set_append_right _ _ (by rw [hsz, Nat.succ_mul]; omega), hsz]
    have : (k + 1) * sz + o - sz = k * sz + o := by rw [Nat.succ_mul]; omega
    rw [this, flat_mod hsz ho hf (by simpa using h)]
/-- The elements from one place on, up to another, are turned. -/
def upTo {α : Type} (f : α → α) (a k : Nat) (xs : List α) : List α := xs.mapIdx fun i x => if a ≤ i ∧ i < k then f x else x
theorem upTo_len {α : Type} {f : α → α} {a k : Nat} {xs : List α} : (upTo f a k xs).length = xs.length := by simp [upTo]
theorem upTo_zero {α : Type} {f : α → α} {a : Nat} {xs : List α} : upTo f a a xs = xs := by
  apply List.ext_getElem?
  intro i
  rw [upTo, List.getElem?_mapIdx]
  have : ¬ (a ≤ i ∧ i < a) := by omega
  simp only [this, if_false]
  cases xs[i]? <;> rfl
theorem upTo_succ {α : Type} {f : α → α} {a k : Nat} {xs : List α} (h : a ≤ k) : modN f k (upTo f a k xs) = upTo f a (k + 1) xs := by
  apply List.ext_getElem?
  intro i
  rw [modN_get, upTo, upTo, List.getElem?_mapIdx, List.getElem?_mapIdx]
  by_cases e : i = k
  · subst e
    have h1 : ¬ (a ≤ i ∧ i < i) := by omega
    have h2 : a ≤ i ∧ i < i + 1 := by omega
    rw [if_pos rfl]
    cases xs[i]? with
    | none => rfl
    | some v =>
      simp only [Option.map_some]
      rw [if_neg h1, if_pos h2]
  · rw [if_neg e]
    have : (a ≤ i ∧ i < k + 1) ↔ (a ≤ i ∧ i < k) := by omega
    simp only [this]
theorem upTo_all {α : Type} {f : α → α} {xs ys : List α} : upTo f xs.length (xs ++ ys).length (xs ++ ys) = xs ++ ys.map f := by
  apply List.ext_getElem?
  intro i
  rw [upTo, List.getElem?_mapIdx]
  by_cases h : i < xs.length
  · have h1 : ¬ (xs.length ≤ i ∧ i < (xs ++ ys).length) := by omega
    rw [List.getElem?_append_left h, List.getElem?_append_left h]
    simp only [h1, if_false]
    cases xs[i]? <;> rfl
  · rw [List.getElem?_append_right (by omega), List.getElem?_append_right (by omega), List.getElem?_map]
    by_cases h2 : i < (xs ++ ys).length
    · have h1 : xs.length ≤ i ∧ i < (xs ++ ys).length := by omega
      simp only [h1, if_true]
      cases ys[i - xs.length]? <;> rfl
    · have : ys[i - xs.length]? = none := List.getElem?_eq_none (by simp at h2; omega)
      rw [this]
      rfl
/-! ## Blocks -/
theorem setL {H : List Bk} {xs : List SV} {ys : List V} (h : xs.length = ys.length) : setCells (H ++ [.cells xs]) H.length 0 ys = H ++ [.cells (ys.map .v)] := by
  have go : ∀ (ys : List V) (pre xs : List SV), xs.length = ys.length → setCells (H ++ [.cells (pre ++ xs)]) H.length pre.length ys = H ++ [.cells (pre ++ ys.map .v)] := by
    intro ys
    induction ys with
    | nil => intro pre xs h; cases xs with
      | nil => rfl
      | cons => simp at h
    | cons y ys ih =>
      intro pre xs h
      cases xs with
      | nil => simp at h
      | cons x xs =>
        have h2 := ih (pre ++ [.v y]) xs (by simpa using h)
        simp only [setCells]
        have e : setBlk (H ++ [.cells (pre ++ x :: xs)]) H.length pre.length (.v y) = H ++ [.cells ((pre ++ [.v y]) ++ xs)] := by simp [setBlk]
        rw [e]
        simpa using h2
  simpa using go ys [] xs h
theorem setP {H : List Bk} {cs : List SV} {j : Nat} {x : V} : setCells (H ++ [.cells cs]) H.length j [x] = H ++ [.cells (cs.set j (.v x))] := by simp [setCells, setBlk]
theorem getL {H L : List Bk} {i : Nat} {b : Bk} (h : H[i]? = some b) : (H ++ L)[i]? = some b := by
  obtain ⟨h1, h2⟩ := List.getElem?_eq_some_iff.1 h
  rw [List.getElem?_append_left h1, h]
theorem appL {H : List Bk} {b : Bk} : (H ++ [b])[H.length]? = some b := by simp
/-! ## Numbers, rising, each once -/
def putIS (n : Int) (s : List Int × Bool) (x : Int) : List Int × Bool := if s.2 = false ∧ n < x then (s.1 ++ [n, x], true) else (s.1 ++ [x], s.2)
def putIG (n : Int) (xs : List Int) : List Int × Bool := xs.foldl (putIS n) ([], false)
def putI (xs : List Int) (n : Int) : List Int := if n ∈ xs then xs else if (putIG n xs).2 then (putIG n xs).1 else (putIG n xs).1 ++ [n]
theorem putIG_succ {n : Int} {xs : List Int} {k : Nat} (h : k < xs.length) : putIG n (xs.take (k + 1)) = putIS n (putIG n (xs.take k)) xs[k] := by
  unfold putIG
  rw [List.take_succ_eq_append_getElem h, List.foldl_append]
  rfl
theorem putIF_len (n : Int) : ∀ (xs : List Int) (s : List Int × Bool), (xs.foldl (putIS n) s).1.length ≤ s.1.length + xs.length + 1 ∧ (s.2 = true → (xs.foldl (putIS n) s).1.length = s.1.length + xs.length ∧ (xs.foldl (putIS n) s).2 = true) ∧ ((xs.foldl (putIS n) s).2 = false → (xs.foldl (putIS n) s).1.length = s.1.length + xs.length)
  | [], s => by simp
  | x :: xs, s => by
    obtain ⟨h1, h2, h3⟩ := putIF_len n xs (putIS n s x)
    rw [List.foldl_cons]
    simp only [List.length_cons]
    by_cases h : s.2 = false ∧ n < x
    · have e : putIS n s x = (s.1 ++ [n, x], true) := by unfold putIS; rw [if_pos h]
      rw [e] at h1 h2 h3 ⊢
      have h2 := h2 rfl
      generalize xs.foldl (putIS n) (s.1 ++ [n, x], true) = r at *
      simp only [List.length_append, List.length_cons, List.length_nil] at h1 h2 h3
      refine ⟨by omega, fun e => (by rw [h.1] at e; cases e), fun e => (by rw [h2.2] at e; cases e)⟩
    · have e : putIS n s x = (s.1 ++ [x], s.2) := by unfold putIS; rw [if_neg h]
      rw [e] at h1 h2 h3 ⊢
      generalize xs.foldl (putIS n) (s.1 ++ [x], s.2) = r at *
      simp only [List.length_append, List.length_cons, List.length_nil] at h1 h2 h3
      refine ⟨by omega, fun e => ?_, fun e => (by have := h3 e; omega)⟩
      have := h2 e
      exact ⟨by omega, this.2⟩
theorem putIG_len (n : Int) (xs : List Int) : (putIG n xs).1.length ≤ xs.length + 1 ∧ ((putIG n xs).2 = false → (putIG n xs).1.length = xs.length) := by
  obtain ⟨h1, _, h3⟩ := putIF_len n xs ([], false)
  simp only [List.length_nil] at h1 h3
  exact ⟨by unfold putIG; omega, fun e => by have := h3 e; unfold putIG; omega⟩
theorem putI_len (n : Int) (xs : List Int) : (putI xs n).length ≤ xs.length + 1 := by
  obtain ⟨h1, h2⟩ := putIG_len n xs
  unfold putI
  split
  · omega
  · split
    · exact h1
    · rename_i h
      have := h2 (by simpa using h)
      simp [this]
theorem putIF_done (n : Int) : ∀ (xs b : List Int), xs.foldl (putIS n) (b, true) = (b ++ xs, true)
  | [], b => by simp
  | x :: xs, b => by
    have : putIS n (b, true) x = (b ++ [x], true) := by simp [putIS]
    rw [List.foldl_cons, this, putIF_done n xs]
    simp
theorem putIF_spec {n : Int} : ∀ (xs a : List Int), (a ++ xs).Pairwise (· < ·) → (∀ x ∈ a, x < n) → n ∉ xs →
    (((xs.foldl (putIS n) (a, false)).1 ++ if (xs.foldl (putIS n) (a, false)).2 then [] else [n]).Pairwise (· < ·) ∧ ∀ z, z ∈ ((xs.foldl (putIS n) (a, false)).1 ++ if (xs.foldl (putIS n) (a, false)).2 then [] else [n]) ↔ z ∈ a ∨ z ∈ xs ∨ z = n)
  | [], a, h1, h2, _ => by
    simp only [List.foldl_nil, Bool.false_eq_true, if_false]
    rw [List.append_nil] at h1
    refine ⟨?_, fun z => by simp⟩
    rw [List.pairwise_append]
    exact ⟨h1, by simp, fun x hx q hq => by simp at hq; subst hq; exact h2 x hx⟩
  | x :: xs, a, h1, h2, h3 => by
    rw [List.foldl_cons]
    by_cases h : n < x
    · have : putIS n (a, false) x = (a ++ [n, x], true) := by simp [putIS, h]
      rw [this, putIF_done]
      simp only [if_true, List.append_nil, List.append_assoc]
      refine ⟨?_, fun z => by simp; grind⟩
      rw [List.pairwise_append] at h1 ⊢
      obtain ⟨q1, q2, q3⟩ := h1
      refine ⟨q1, ?_, fun y hy z hz => ?_⟩
      · simp only [List.cons_append, List.nil_append]
        rw [List.pairwise_cons]
        refine ⟨fun z hz => ?_, q2⟩
        rcases List.mem_cons.1 hz with rfl | hz
        · omega
        · have := (List.pairwise_cons.1 q2).1 z hz
          omega
      · simp only [List.cons_append, List.nil_append] at hz
        rcases List.mem_cons.1 hz with rfl | hz
        · exact h2 y hy
        · exact q3 y hy z hz
    · have hne : n ≠ x := fun e => h3 (by simp [e])
      have : putIS n (a, false) x = (a ++ [x], false) := by simp [putIS, h]
      rw [this]
      obtain ⟨k1, k2⟩ := putIF_spec xs (a ++ [x]) (by simpa using h1) (fun y hy => by
        rcases List.mem_append.1 hy with hy | hy
        · exact h2 y hy
        · simp at hy
          subst hy
          omega) (fun hm => h3 (by simp [hm]))
      exact ⟨k1, fun z => by rw [k2]; simp; grind⟩
theorem putI_spec {n : Int} {xs : List Int} (h : xs.Pairwise (· < ·)) : (putI xs n).Pairwise (· < ·) ∧ ∀ z, z ∈ putI xs n ↔ z ∈ xs ∨ z = n := by
  unfold putI
  split
  · rename_i hm
    exact ⟨h, fun z => ⟨.inl, fun hz => hz.elim id fun e => e ▸ hm⟩⟩
  · rename_i hm
    obtain ⟨h1, h2⟩ := putIF_spec xs [] (by simpa using h) (by simp) hm
    unfold putIG
    cases hb : (xs.foldl (putIS n) ([], false)).2 with
    | true => rw [hb] at h1 h2; simp at h1 h2 ⊢; exact ⟨h1, h2⟩
    | false => rw [hb] at h1 h2; simp at h1 h2 ⊢; exact ⟨h1, h2⟩
end Go.Proofs.Ytbcfoakceloenaa
namespace Go.Proofs.Ytbcfoakceloenaa
set_option linter.all false
namespace Can
variable {L : Type} [DecidableEq L]
theorem push_last {R : List (Run L)} {n m : Int} {z : L} : ∃ R' a, push R n m z = R' ++ [⟨a, m - 1, z⟩] := by
  unfold push
  split
  · rename_i r hr
    split
    · exact ⟨_, _, rfl⟩
    · exact ⟨_, _, rfl⟩
  · exact ⟨[], n, rfl⟩
theorem push_more {R : List (Run L)} {r : Run L} {n m : Int} {z : L} (h1 : r.b + 1 = n) (h2 : r.z = z) : push (R ++ [r]) n m z = R ++ [⟨r.a, m - 1, z⟩] := by
  unfold push
  simp [h1, h2]
theorem push_fresh {R : List (Run L)} {n m : Int} {z : L} (h : ∀ R' r, R = R' ++ [r] → r.b + 1 = n → r.z ≠ z) : push R n m z = R ++ [⟨n, m - 1, z⟩] := by
  rcases List.eq_nil_or_concat R with rfl | ⟨R', r, rfl⟩
  · rfl
  · unfold push
    simp only [List.concat_eq_append] at h ⊢
    simp only [List.getLast?_append, List.getLast?_singleton, Option.some_or, List.dropLast_concat]
    rw [if_neg]
    rintro ⟨h1, h2⟩
    exact h R' r rfl h1 h2
theorem app_last {α : Type} {A B : List α} {x y : α} (h : A ++ [x] = B ++ [y]) : A = B ∧ x = y := by
  have h1 := List.append_inj' h rfl
  exact ⟨h1.1, by simpa using h1.2⟩
theorem runsK_end {f : Int → Option L} {xs : List Int} (hs : xs.Pairwise (· < ·)) : ∀ {k : Nat} (hk : k < xs.length) {R' : List (Run L)} {r : Run L}, runsK f xs k = R' ++ [r] →
    r.b + 1 ≤ xs[k] ∧ (r.b + 1 = xs[k] → ∃ j, ∃ hj : j < xs.length, k = j + 1 ∧ f xs[j] = some r.z)
  | 0, hk, R', r, h => by simp [runsK] at h
  | k + 1, hk, R', r, h => by
    rw [runsK_succ hk] at h
    have hlt := pair_lt hs (i := k) (j := k + 1) (by omega) hk (by omega)
    unfold step at h
    split at h
    · rename_i z hz
      obtain ⟨R2, a, e⟩ := push_last (R := runsK f xs k) (n := xs[k]) (m := xs[k + 1]) (z := z)
      rw [e] at h
      obtain ⟨_, rfl⟩ := app_last h
      refine ⟨by simp only; omega, fun _ => ⟨k, by omega, rfl, hz⟩⟩
    · have := (runsK_end hs (k := k) (by omega) h).1
      exact ⟨by omega, fun e => by omega⟩
/-- A stretch of cuts over which a labelling stays, behind one where it was another. -/
theorem runsK_stretch {f : Int → Option L} {xs : List Int} (hs : xs.Pairwise (· < ·)) {i k : Nat} (hik : i < k) (hk : k < xs.length) (hnew : ∀ j, ∀ hj : j < xs.length, i = j + 1 → f xs[j] ≠ f (xs[i]'(by omega)))
    (hsame : ∀ j, ∀ hj : j < xs.length, i ≤ j → j < k → f xs[j] = f (xs[i]'(by omega))) : runsK f xs k = runsK f xs i ++ (match f (xs[i]'(by omega)) with
      | some z => [⟨xs[i]'(by omega), xs[k] - 1, z⟩]
      | none => []) := by
  have hi : i < xs.length := by omega
  have go : ∀ d, ∀ h : i + d + 1 < xs.length, i + d + 1 ≤ k → runsK f xs (i + d + 1) = runsK f xs i ++ (match f (xs[i]'hi) with
      | some z => [⟨xs[i]'hi, xs[i + d + 1] - 1, z⟩]
      | none => []) := by
    intro d
    induction d with
    | zero =>
      intro h hle
      rw [runsK_succ (k := i + 0) h]
      simp only [Nat.add_zero]
      unfold step
      cases hz : f (xs[i]'hi) with
      | none => simp
      | some z =>
        simp only
        rw [push_fresh]
        intro R' r e hb hz'
        obtain ⟨j, hj, e1, e2⟩ := (runsK_end hs hi e).2 hb
        refine hnew j hj e1 ?_
        rw [e2, hz, hz']
    | succ d ih =>
      intro h hle
      have h' : i + d + 1 + 1 < xs.length := h
      have hle' : i + d + 1 + 1 ≤ k := hle
      show runsK f xs (i + d + 1 + 1) = runsK f xs i ++ (match f (xs[i]'hi) with
        | some z => [⟨xs[i]'hi, xs[i + d + 1 + 1] - 1, z⟩]
        | none => [])
      clear h hle
      have h := h'
      have hle := hle'
      rw [runsK_succ (k := i + d + 1) h, ih (by omega) (by omega)]
      have e := hsame (i + d + 1) (by omega) (by omega) (by omega)
      unfold step
      rw [e]
      cases hz : f (xs[i]'hi) with
      | none => simp
      | some z =>
        simp only
        rw [push_more (Int.sub_add_cancel _ _) rfl]
  have h2 := go (k - i - 1) (by omega) (by omega)
  have e3 : i + (k - i - 1) + 1 = k := by omega
  simp only [e3] at h2
  exact h2
theorem bandF_eq {R : Int → List (Run L)} {y y' : Int} : bandF R y = bandF R y' ↔ R y = R y' := by
  unfold bandF
  by_cases h : R y = [] <;> by_cases h' : R y' = []
  · simp [h, h']
  · simp [h, h']
  · simp [h, h']
  · simp [h, h']
theorem emit_append {B C : List (Run (List (Run L)))} : emit (B ++ C) = emit B ++ emit C := by simp [emit]
/-- The bands, found by looking ahead. -/
theorem emit_stretch {R : Int → List (Run L)} {ys : List Int} (hs : ys.Pairwise (· < ·)) {i k : Nat} (hik : i < k) (hk : k < ys.length) (hnew : ∀ j, ∀ hj : j < ys.length, i = j + 1 → R ys[j] ≠ R (ys[i]'(by omega)))
    (hsame : ∀ j, ∀ hj : j < ys.length, i ≤ j → j < k → R ys[j] = R (ys[i]'(by omega))) : emit (runsK (bandF R) ys k) = emit (runsK (bandF R) ys i) ++ (R (ys[i]'(by omega))).map (rect (ys[i]'(by omega)) (ys[k] - 1)) := by
  rw [runsK_stretch hs hik hk (fun j hj e => fun h => hnew j hj e (bandF_eq.1 h)) (fun j hj h1 h2 => bandF_eq.2 (hsame j hj h1 h2)), emit_append]
  congr 1
  cases hz : bandF R (ys[i]'(by omega)) with
  | none =>
    unfold bandF at hz
    split at hz
    · rename_i hn
      rw [hn]
      rfl
    · cases hz
  | some z =>
    unfold bandF at hz
    split at hz
    · cases hz
    · cases hz
      simp [emit, band]
end Can
end Go.Proofs.Ytbcfoakceloenaa
namespace Go.Proofs.Ytbcfoakceloenaa
set_option linter.all false
open Go.RowKit AM Can
theorem compact_spec {zs : List Int} (h : zs.Pairwise (· ≤ ·)) : (Go.Lib.compact zs).Pairwise (· < ·) ∧ ∀ z, z ∈ Go.Lib.compact zs ↔ z ∈ zs := by
  have get : ∀ j, ∀ hj : j < zs.length, zs.toArray[j]! = zs[j] := fun j hj => by rw [getElem!_pos zs.toArray j (by simpa using hj)]; simp
  have key : ∀ m, m ≤ zs.length → (Go.Lib.compactUpTo zs.toArray m).Pairwise (· < ·) ∧ (∀ z, z ∈ Go.Lib.compactUpTo zs.toArray m ↔ z ∈ zs.take m) := by
    intro m
    induction m with
    | zero => intro _; simp [Go.Lib.compactUpTo]
    | succ m ih =>
      intro hm
      obtain ⟨h1, h2⟩ := ih (by omega)
      have hml : m < zs.length := by omega
      rw [Go.Lib.compactUpTo_succ, List.take_succ_eq_append_getElem hml]
      by_cases hk : Go.Lib.keeps zs.toArray m = true
      · rw [if_pos hk, get m hml]
        refine ⟨?_, fun z => by rw [List.mem_append, h2, List.mem_append]⟩
        rw [List.pairwise_append]
        refine ⟨h1, by simp, fun x hx y hy => ?_⟩
        simp at hy
        subst hy
        rw [h2] at hx
        obtain ⟨i, hi, rfl⟩ := List.getElem_of_mem hx
        rw [List.getElem_take]
        rw [List.length_take] at hi
        have hle : ∀ i, ∀ hi : i < m, zs[i] ≤ zs[m] := fun i hi => (List.pairwise_iff_getElem.1 h) i m (by omega) hml hi
        unfold Go.Lib.keeps at hk
        simp only [decide_eq_true_eq] at hk
        rcases hk with hk | hk
        · omega
        · rw [get m hml, get (m - 1) (by omega)] at hk
          have h3 := hle (m - 1) (by omega)
          have h4 : zs[i] ≤ zs[m - 1] := by
            by_cases e : i = m - 1
            · subst e; exact Int.le_refl _
            · exact (List.pairwise_iff_getElem.1 h) i (m - 1) (by omega) (by omega) (by omega)
          omega
      · rw [if_neg hk]
        refine ⟨by simpa using h1, fun z => ?_⟩
        rw [List.append_nil, h2, List.mem_append]
        refine ⟨.inl, fun hz => hz.elim id fun hz => ?_⟩
        simp at hz
        subst hz
        unfold Go.Lib.keeps at hk
        simp only [decide_eq_true_eq, not_or, ne_eq, Classical.not_not] at hk
        rw [get m hml, get (m - 1) (by omega)] at hk
        rw [hk.2]
        rw [List.mem_take_iff_getElem]
        exact ⟨m - 1, by omega, rfl⟩
  obtain ⟨h1, h2⟩ := key zs.length (Nat.le_refl _)
  exact ⟨h1, fun z => by unfold Go.Lib.compact; rw [h2, List.take_length]⟩
/-- Numbers, sorted, each once. -/
def numsC (zs : List Int) : List Int := Go.Lib.compact (sorted' zs)
theorem numsC_spec (zs : List Int) : (numsC zs).Pairwise (· < ·) ∧ ∀ z, z ∈ numsC zs ↔ z ∈ zs := by
  obtain ⟨h1, h2⟩ := compact_spec (sorted'_rises zs)
  exact ⟨h1, fun z => by
    unfold numsC
    rw [h2]
    exact (List.mergeSort_perm zs _).mem_iff⟩
theorem numsC_len (zs : List Int) : (numsC zs).length ≤ zs.length := by
  unfold numsC Go.Lib.compact Go.Lib.compactUpTo
  rw [List.length_map]
  have := List.length_filter_le (Go.Lib.keeps (sorted' zs).toArray) (List.range (sorted' zs).length)
  have e : (sorted' zs).length = zs.length := by simp [sorted']
  simp only [List.length_range] at this
  omega
/-! ## Runs that are joined -/
def unitF (cnt : Int → Bool) (x : Int) : Option Unit := if cnt x then some () else none
theorem unitF_some {cnt : Int → Bool} {x : Int} {u : Unit} : unitF cnt x = some u ↔ cnt x = true := by
  unfold unitF
  cases cnt x <;> simp
theorem unitF_none {cnt : Int → Bool} {x : Int} : unitF cnt x = none ↔ cnt x = false := by
  unfold unitF
  cases cnt x <;> simp
def within (rs : List (Run Unit)) (x : Int) : Bool := rs.any fun r => decide (r.a ≤ x ∧ x ≤ r.b)
theorem within_iff {rs : List (Run Unit)} {x : Int} : within rs x = true ↔ ∃ r ∈ rs, r.a ≤ x ∧ x ≤ r.b := by simp [within]
theorem Can.Can.within {cnt : Int → Bool} {rs : List (Run Unit)} (h : Can.Can (unitF cnt) rs) (x : Int) : within rs x = cnt x := by
  rw [Bool.eq_iff_iff, within_iff, ← unitF_some (u := ()), h.iff]
  unfold hasR
  simp
def setB (v : Int) (r : Run Unit) : Run Unit := { r with b := v }
def mergeS (out : List (Run Unit)) (r : Run Unit) : List (Run Unit) := match out.getLast? with
  | some t => if r.a ≤ t.b + 1 then modN (setB (max t.b r.b)) (out.length - 1) out else out ++ [r]
  | none => [r]
theorem mergeS_len (out : List (Run Unit)) (r : Run Unit) : (mergeS out r).length ≤ out.length + 1 := by
  unfold mergeS
  split
  · split
    · rw [modN_len]; omega
    · simp
  · simp
/-- Runs, sorted by where they begin, are joined. -/
theorem merge_can : ∀ (rs : List (Run Unit)), (∀ r ∈ rs, r.a ≤ r.b) → rs.Pairwise (fun p q => p.a ≤ q.a) → ∀ (done out : List (Run Unit)), Can.Can (unitF (Go.Proofs.Ytbcfoakceloenaa.within done)) out → (∀ t ∈ out, ∀ r ∈ rs, t.a ≤ r.a) →
    Can.Can (unitF (Go.Proofs.Ytbcfoakceloenaa.within (done ++ rs))) (rs.foldl mergeS out)
  | [], _, _, done, out, h, _ => by simpa using h
  | r :: rs, hle, hs, done, out, h, ht => by
    obtain ⟨s1, s2⟩ := List.pairwise_cons.1 hs
    have hr := hle r (by simp)
    rw [List.foldl_cons]
    have e : done ++ r :: rs = (done ++ [r]) ++ rs := by simp
    rw [e]
    have hw : ∀ x, Go.Proofs.Ytbcfoakceloenaa.within (done ++ [r]) x = true ↔ Go.Proofs.Ytbcfoakceloenaa.within done x = true ∨ (r.a ≤ x ∧ x ≤ r.b) := fun x => by simp [Go.Proofs.Ytbcfoakceloenaa.within]
    have hiff : ∀ x u, unitF (Go.Proofs.Ytbcfoakceloenaa.within (done ++ [r])) x = some u ↔ hasR out x u ∨ (r.a ≤ x ∧ x ≤ r.b) := fun x u => by
      rw [unitF_some, hw, ← unitF_some (u := u), h.iff]
    refine merge_can rs (fun q hq => hle q (by simp [hq])) s2 (done ++ [r]) (mergeS out r) ?_ ?_
    · rcases List.eq_nil_or_concat out with rfl | ⟨R, t, rfl⟩
      · refine ⟨by simpa [mergeS] using hr, by simp [mergeS], fun x u => ?_⟩
        rw [hiff]
        simp [mergeS, hasR]
      · simp only [List.concat_eq_append] at h ht hiff ⊢
        unfold mergeS
        simp only [List.getLast?_append, List.getLast?_singleton, Option.some_or]
        have hta := ht t (by simp) r (by simp)
        have htb := h.le t (by simp)
        obtain ⟨p1, _, p3⟩ := List.pairwise_append.1 h.pw
        split
        · rename_i hc
          have e2 : (R ++ [t]).length - 1 = R.length := by simp
          rw [e2, modN_last]
          refine ⟨fun q hq => ?_, ?_, fun x u => ?_⟩
          · rcases List.mem_append.1 hq with hq | hq
            · exact h.le q (by simp [hq])
            · simp at hq; subst hq; simp only [setB]; omega
          · rw [List.pairwise_append]
            refine ⟨p1, by simp, fun q hq s hs => ?_⟩
            simp at hs
            subst hs
            exact p3 q hq t (by simp)
          · rw [hiff, hasR_append, hasR_append]
            simp only [hasR, List.mem_singleton, exists_eq_left, setB]
            constructor
            · rintro ((k | ⟨k1, k2, _⟩) | ⟨k1, k2⟩)
              · exact .inl k
              · exact .inr ⟨k1, by omega, trivial⟩
              · exact .inr ⟨by omega, by omega, trivial⟩
            · rintro (k | ⟨k1, k2, _⟩)
              · exact .inl (.inl k)
              · by_cases hx : x ≤ t.b
                · exact .inl (.inr ⟨k1, hx, trivial⟩)
                · exact .inr ⟨by omega, by omega⟩
        · rename_i hc
          refine ⟨fun q hq => ?_, ?_, fun x u => ?_⟩
          · rcases List.mem_append.1 hq with hq | hq
            · exact h.le q hq
            · simp at hq; subst hq; exact hr
          · rw [List.pairwise_append]
            refine ⟨h.pw, by simp, fun q hq s hs => ?_⟩
            simp at hs
            subst hs
            rcases List.mem_append.1 hq with hq | hq
            · have := (p3 q hq t (by simp)).1
              exact ⟨by omega, fun e => by omega⟩
            · simp at hq
              subst hq
              exact ⟨by omega, fun e => by omega⟩
          · have e3 : hasR [r] x u ↔ (r.a ≤ x ∧ x ≤ r.b) := by simp [hasR]
            rw [hiff, hasR_append (R := R ++ [t]) (S := [r]), e3]
    · intro q hq s hs
      have hrs := s1 s hs
      unfold mergeS at hq
      split at hq
      · rename_i t htl
        split at hq
        · rcases List.eq_nil_or_concat out with e' | ⟨R, t', e'⟩
          · subst e'; simp at htl
          · simp only [List.concat_eq_append] at e'
            subst e'
            rw [show (R ++ [t']).length - 1 = R.length by simp, modN_last] at hq
            rcases List.mem_append.1 hq with hq | hq
            · exact ht q (by simp [hq]) s (by simp [hs])
            · simp at hq
              subst hq
              exact ht t' (by simp) s (by simp [hs])
        · rcases List.mem_append.1 hq with hq | hq
          · exact ht q hq s (by simp [hs])
          · simp at hq; subst hq; exact hrs
      · simp at hq; subst hq; exact hrs
theorem merged_can {rs : List (Run Unit)} (hle : ∀ r ∈ rs, r.a ≤ r.b) (hs : rs.Pairwise fun p q => p.a ≤ q.a) : Can.Can (unitF (Go.Proofs.Ytbcfoakceloenaa.within rs)) (rs.foldl mergeS []) := by
  have := merge_can rs hle hs [] [] (Can.Can.nil_of fun x => by simp [unitF, Go.Proofs.Ytbcfoakceloenaa.within]) (by simp)
  simpa using this
end Go.Proofs.Ytbcfoakceloenaa
