/- Regions: the labelling of points by rows of rectangles, its one form, and the program's form. -/
import Derived.Test.YtoooldijnilpaaaVy
import Derived.Scope
namespace Go.Proofs.Ytoooldijnilpaaa
set_option linter.all false
open Go.RowKit AM Can

/-- Which points count. -/
def Lab (cf : Bool → Bool → Bool) (a b : List Re) (x y : Int) : Option Unit := unitF (fun x => cf (hasL a x y) (hasL b x y)) x
theorem hasL_iff {l : List Re} {x y : Int} : hasL l x y = true ↔ ∃ r ∈ l, rightR r = true ∧ (r.x0 ≤ x ∧ x ≤ r.x1) ∧ r.y0 ≤ y ∧ y ≤ r.y1 := by
  unfold hasL
  rw [List.any_eq_true]
  constructor
  · rintro ⟨r, hr, h⟩; exact ⟨r, hr, hasR_iff.1 h⟩
  · rintro ⟨r, hr, h⟩; exact ⟨r, hr, hasR_iff.2 h⟩
theorem hasL_in {l : List Re} {x y : Int} (h : hasL l x y = true) : (0 ≤ x ∧ x ≤ 65535) ∧ 0 ≤ y ∧ y ≤ 65535 := by
  obtain ⟨r, _, h1, h2, h3⟩ := hasL_iff.1 h
  have := rightR_iff.1 h1
  omega
theorem hasL_sameX {l : List Re} {xs : List Int} (hx : ∀ r ∈ l, r.x0 ∈ xs ∧ r.x1 + 1 ∈ xs) {x x' : Int} (h : ∀ c ∈ xs, c ≤ x ↔ c ≤ x') (y : Int) : hasL l x y = hasL l x' y := by
  rw [Bool.eq_iff_iff, hasL_iff, hasL_iff]
  constructor
  · rintro ⟨r, hr, h1, h2, h3⟩
    have a1 := h _ (hx r hr).1
    have a2 := h _ (hx r hr).2
    exact ⟨r, hr, h1, by omega, h3⟩
  · rintro ⟨r, hr, h1, h2, h3⟩
    have a1 := h _ (hx r hr).1
    have a2 := h _ (hx r hr).2
    exact ⟨r, hr, h1, by omega, h3⟩
theorem hasL_sameY {l : List Re} {ys : List Int} (hy : ∀ r ∈ l, r.y0 ∈ ys ∧ r.y1 + 1 ∈ ys) {y y' : Int} (h : ∀ c ∈ ys, c ≤ y ↔ c ≤ y') (x : Int) : hasL l x y = hasL l x y' := by
  rw [Bool.eq_iff_iff, hasL_iff, hasL_iff]
  constructor
  · rintro ⟨r, hr, h1, h2, h3⟩
    have a1 := h _ (hy r hr).1
    have a2 := h _ (hy r hr).2
    exact ⟨r, hr, h1, h2, by omega⟩
  · rintro ⟨r, hr, h1, h2, h3⟩
    have a1 := h _ (hy r hr).1
    have a2 := h _ (hy r hr).2
    exact ⟨r, hr, h1, h2, by omega⟩
theorem hasL_offX {l : List Re} {xs : List Int} (hx : ∀ r ∈ l, r.x0 ∈ xs ∧ r.x1 + 1 ∈ xs) {x : Int} (h : (∀ c ∈ xs, ¬ c ≤ x) ∨ ∀ c ∈ xs, c ≤ x) (y : Int) : hasL l x y = false := by
  rw [Bool.eq_false_iff]
  intro e
  obtain ⟨r, hr, h1, h2, h3⟩ := hasL_iff.1 e
  rcases h with h | h
  · have := h _ (hx r hr).1
    omega
  · have := h _ (hx r hr).2
    omega
theorem hasL_offY {l : List Re} {ys : List Int} (hy : ∀ r ∈ l, r.y0 ∈ ys ∧ r.y1 + 1 ∈ ys) {y : Int} (h : (∀ c ∈ ys, ¬ c ≤ y) ∨ ∀ c ∈ ys, c ≤ y) (x : Int) : hasL l x y = false := by
  rw [Bool.eq_false_iff]
  intro e
  obtain ⟨r, hr, h1, h2, h3⟩ := hasL_iff.1 e
  rcases h with h | h
  · have := h _ (hy r hr).1
    omega
  · have := h _ (hy r hr).2
    omega
theorem lab_row {cf : Bool → Bool → Bool} (hno : cf false false = false) {a b : List Re} {xs : List Int} (hs : xs.Pairwise (· < ·)) (hx : ∀ r ∈ a ++ b, r.x0 ∈ xs ∧ r.x1 + 1 ∈ xs) (y : Int) : Cuts (fun x => Lab cf a b x y) xs := by
  have ha : ∀ r ∈ a, r.x0 ∈ xs ∧ r.x1 + 1 ∈ xs := fun r hr => hx r (by simp [hr])
  have hb : ∀ r ∈ b, r.x0 ∈ xs ∧ r.x1 + 1 ∈ xs := fun r hr => hx r (by simp [hr])
  refine ⟨hs, fun x x' h => ?_, fun x h => ?_, fun x h => ?_⟩
  · simp only [Lab, unitF, hasL_sameX ha h, hasL_sameX hb h]
  · simp only [Lab, unitF, hasL_offX ha (.inl h), hasL_offX hb (.inl h), hno, Bool.false_eq_true, if_false]
  · simp only [Lab, unitF, hasL_offX ha (.inr h), hasL_offX hb (.inr h), hno, Bool.false_eq_true, if_false]
theorem lab_col {cf : Bool → Bool → Bool} (hno : cf false false = false) {a b : List Re} {ys : List Int} (hs : ys.Pairwise (· < ·)) (hy : ∀ r ∈ a ++ b, r.y0 ∈ ys ∧ r.y1 + 1 ∈ ys) : CutsY (Lab cf a b) ys := by
  have ha : ∀ r ∈ a, r.y0 ∈ ys ∧ r.y1 + 1 ∈ ys := fun r hr => hy r (by simp [hr])
  have hb : ∀ r ∈ b, r.y0 ∈ ys ∧ r.y1 + 1 ∈ ys := fun r hr => hy r (by simp [hr])
  refine ⟨hs, fun x y y' h => ?_, fun x y h => ?_, fun x y h => ?_⟩
  · simp only [Lab, unitF, hasL_sameY ha h, hasL_sameY hb h]
  · simp only [Lab, unitF, hasL_offY ha (.inl h), hasL_offY hb (.inl h), hno, Bool.false_eq_true, if_false]
  · simp only [Lab, unitF, hasL_offY ha (.inr h), hasL_offY hb (.inr h), hno, Bool.false_eq_true, if_false]
theorem edgesX_mem (l : List Re) : ∀ r ∈ l, r.x0 ∈ edgesR l false ∧ r.x1 + 1 ∈ edgesR l false := fun r hr => ⟨((edgesR_spec l false).2 _).2 (.inr (.inr ⟨r, hr, .inl rfl⟩)), ((edgesR_spec l false).2 _).2 (.inr (.inr ⟨r, hr, .inr rfl⟩))⟩
theorem edgesY_mem (l : List Re) : ∀ r ∈ l, r.y0 ∈ edgesR l true ∧ r.y1 + 1 ∈ edgesR l true := fun r hr => ⟨((edgesR_spec l true).2 _).2 (.inr (.inr ⟨r, hr, .inl rfl⟩)), ((edgesR_spec l true).2 _).2 (.inr (.inr ⟨r, hr, .inr rfl⟩))⟩
/-- The form of a labelling. -/
def formL (cf : Bool → Bool → Bool) (a b : List Re) : List (Rc Unit) := emit (runsK (bandF (rowK (Lab cf a b) (edgesR (a ++ b) false))) (edgesR (a ++ b) true) ((edgesR (a ++ b) true).length - 1))
theorem formL_form {cf : Bool → Bool → Bool} (hno : cf false false = false) (a b : List Re) : Can.Form (Lab cf a b) (formL cf a b) :=
  (lab_col hno (edgesR_spec (a ++ b) true).1 (edgesY_mem _)).form fun y => (lab_row hno (edgesR_spec (a ++ b) false).1 (edgesX_mem _) y).can
def how3 (how : Int) (p q : Bool) : Bool := if how = 1 then p && !q else if how = 2 then p && q else p || q
theorem how3_no (how : Int) : how3 how false false = false := by
  unfold how3
  split
  · rfl
  · split <;> rfl
theorem unF_lab (a b : List Re) (how : Int) : unF a b how = Lab (how3 how) a b := by
  funext x y
  unfold unF Lab
  congr 1
theorem outK_form (a b : List Re) (how : Int) : outK (Rr a b how (edgesR (a ++ b) false)) (edgesR (a ++ b) true) ((edgesR (a ++ b) true).length - 1) = (formL (how3 how) a b).map toRe := by
  unfold outK formL
  have : Rr a b how (edgesR (a ++ b) false) = rowK (Lab (how3 how) a b) (edgesR (a ++ b) false) := by
    funext y
    unfold Rr
    rw [unF_lab]
  rw [this]
/-! ## The rows of one side -/
def rowC (l : List Re) (y : Int) : List (Run Unit) := rowK (Lab (fun p _ => p) l []) (edgesR (l ++ []) false) y
theorem rowC_can (l : List Re) (y : Int) : Can.Can (unitF fun x => hasL l x y) (rowC l y) := (lab_row (cf := fun p _ => p) rfl (a := l) (b := []) (edgesR_spec (l ++ []) false).1 (edgesX_mem _) y).can
theorem rowC_len (l : List Re) (y : Int) : (rowC l y).length ≤ 2 + 2 * l.length := by
  have h1 := runsK_len (f := fun x => Lab (fun p _ => p) l [] x y) (xs := edgesR (l ++ []) false) ((edgesR (l ++ []) false).length - 1)
  have h2 := edgesR_len false (l ++ [])
  rw [List.append_nil] at h1 h2
  unfold rowC rowK
  rw [List.append_nil]
  omega
theorem rowC_in {l : List Re} {y : Int} {r : Run Unit} (h : r ∈ rowC l y) : 0 ≤ r.a ∧ 0 ≤ r.b ∧ r.b ≤ 65535 ∧ r.a ≤ 65535 := by
  have hc := rowC_can l y
  have hle := hc.le r h
  have h1 := (hc.iff r.a r.z).2 ⟨r, h, Int.le_refl _, hle, rfl⟩
  have h2 := (hc.iff r.b r.z).2 ⟨r, h, hle, Int.le_refl _, rfl⟩
  have h3 := hasL_in (unitF_some.1 h1)
  have h4 := hasL_in (unitF_some.1 h2)
  omega
/-! ## The rows of two sides -/
theorem endsN_mem {R : List (Run Unit)} {r : Run Unit} (h : r ∈ R) : r.a ∈ endsN R ∧ r.b + 1 ∈ endsN R := by
  unfold endsN
  simp only [List.mem_flatMap]
  exact ⟨⟨r, h, by simp⟩, ⟨r, h, by simp⟩⟩
theorem within_same {R : List (Run Unit)} {xs : List Int} (hx : ∀ r ∈ R, r.a ∈ xs ∧ r.b + 1 ∈ xs) {x x' : Int} (h : ∀ c ∈ xs, c ≤ x ↔ c ≤ x') : within R x = within R x' := by
  rw [Bool.eq_iff_iff, within_iff, within_iff]
  constructor
  · rintro ⟨r, hr, h1⟩
    have a1 := h _ (hx r hr).1
    have a2 := h _ (hx r hr).2
    exact ⟨r, hr, by omega⟩
  · rintro ⟨r, hr, h1⟩
    have a1 := h _ (hx r hr).1
    have a2 := h _ (hx r hr).2
    exact ⟨r, hr, by omega⟩
theorem within_off {R : List (Run Unit)} {xs : List Int} (hx : ∀ r ∈ R, r.a ∈ xs ∧ r.b + 1 ∈ xs) {x : Int} (h : (∀ c ∈ xs, ¬ c ≤ x) ∨ ∀ c ∈ xs, c ≤ x) : within R x = false := by
  rw [Bool.eq_false_iff]
  intro e
  obtain ⟨r, hr, h1⟩ := within_iff.1 e
  rcases h with h | h
  · have := h _ (hx r hr).1
    omega
  · have := h _ (hx r hr).2
    omega
theorem joined_can {cf : Bool → Bool → Bool} (hno : cf false false = false) (R S : List (Run Unit)) : Can.Can (unitF (jF cf R S)) (runsK (unitF (jF cf R S)) (numsC (endsN (R ++ S))) ((numsC (endsN (R ++ S))).length - 1)) := by
  obtain ⟨h1, h2⟩ := numsC_spec (endsN (R ++ S))
  have hm : ∀ r ∈ R ++ S, r.a ∈ numsC (endsN (R ++ S)) ∧ r.b + 1 ∈ numsC (endsN (R ++ S)) := fun r hr => ⟨(h2 _).2 (endsN_mem hr).1, (h2 _).2 (endsN_mem hr).2⟩
  have ha : ∀ r ∈ R, r.a ∈ numsC (endsN (R ++ S)) ∧ r.b + 1 ∈ numsC (endsN (R ++ S)) := fun r hr => hm r (by simp [hr])
  have hb : ∀ r ∈ S, r.a ∈ numsC (endsN (R ++ S)) ∧ r.b + 1 ∈ numsC (endsN (R ++ S)) := fun r hr => hm r (by simp [hr])
  refine Cuts.can ⟨h1, fun x x' h => ?_, fun x h => ?_, fun x h => ?_⟩
  · have e : jF cf R S x = jF cf R S x' := by
      unfold jF
      rw [within_same ha h, within_same hb h]
    exact congrArg (fun b : Bool => if b = true then some () else none) e
  · have e : jF cf R S x = false := by
      unfold jF
      rw [within_off ha (.inl h), within_off hb (.inl h), hno]
    exact congrArg (fun b : Bool => if b = true then some () else none) e
  · have e : jF cf R S x = false := by
      unfold jF
      rw [within_off ha (.inr h), within_off hb (.inr h), hno]
    exact congrArg (fun b : Bool => if b = true then some () else none) e
def joinC (cf : Bool → Bool → Bool) (a b : List Re) (y : Int) : List (Run Unit) := runsK (unitF (jF cf (rowC a y) (rowC b y))) (numsC (endsN (rowC a y ++ rowC b y))) ((numsC (endsN (rowC a y ++ rowC b y))).length - 1)
theorem joinC_rows {cf : Bool → Bool → Bool} (hno : cf false false = false) (a b : List Re) : Can.Rows (Lab cf a b) (joinC cf a b) := fun y => by
  have h := joined_can hno (rowC a y) (rowC b y)
  have e : jF cf (rowC a y) (rowC b y) = fun x => cf (hasL a x y) (hasL b x y) := by
    funext x
    unfold jF
    rw [(rowC_can a y).within, (rowC_can b y).within]
  unfold joinC
  rw [e] at h ⊢
  exact h
theorem joinC_len (cf : Bool → Bool → Bool) (a b : List Re) (y : Int) : (joinC cf a b y).length ≤ 2 * (2 + 2 * a.length + (2 + 2 * b.length)) := by
  have h1 := runsK_len (f := unitF (jF cf (rowC a y) (rowC b y))) (xs := numsC (endsN (rowC a y ++ rowC b y))) ((numsC (endsN (rowC a y ++ rowC b y))).length - 1)
  have h2 := numsC_len (endsN (rowC a y ++ rowC b y))
  have h3 : (endsN (rowC a y ++ rowC b y)).length = 2 * (rowC a y ++ rowC b y).length := ends_len2 _
  have h4 := rowC_len a y
  have h5 := rowC_len b y
  rw [List.length_append] at h3
  unfold joinC
  rw [h3] at h2
  refine Nat.le_trans h1 ?_
  omega
theorem endsY_mem {l : List Re} {r : Re} (h : r ∈ l) : r.y0 ∈ endsY l ∧ r.y1 + 1 ∈ endsY l := by
  unfold endsY
  simp only [List.mem_flatMap]
  exact ⟨⟨r, h, by simp⟩, ⟨r, h, by simp⟩⟩
theorem formP {cf : Bool → Bool → Bool} (hno : cf false false = false) (a b : List Re) : emit (runsK (bandF (joinC cf a b)) (numsC (endsY (a ++ b))) ((numsC (endsY (a ++ b))).length - 1)) = formL cf a b := by
  obtain ⟨h1, h2⟩ := numsC_spec (endsY (a ++ b))
  exact ((lab_col hno h1 fun r hr => ⟨(h2 _).2 (endsY_mem hr).1, (h2 _).2 (endsY_mem hr).2⟩).form (joinC_rows hno a b)).uniq (formL_form hno a b)
/-! ## Bands that grow -/
/-- How the last band lies. -/
def Band (R : Int → List (Run Unit)) (ys : List Int) (k : Nat) (from' : Nat) (last : List (Run Unit)) : Prop := (k = 0 → from' = 0 ∧ last = []) ∧ ∀ j, ∀ ej : k = j + 1, ∃ hj : k < ys.length, last = R (ys[j]'(by omega)) ∧
  ((last = [] ∧ from' = (emit (runsK (bandF R) ys k)).length) ∨ ∃ B b, runsK (bandF R) ys k = B ++ [b] ∧ b.b + 1 = ys[k] ∧ b.z = last ∧ from' = (emit B).length)
theorem band_toRe (b : Run (List (Run Unit))) : (band b).map toRe = b.z.map (rowRe b.a b.b) := toRe_rect _ _ _
theorem emit_one {b : Run (List (Run Unit))} : emit [b] = band b := by simp [emit]
theorem bandF_of {R : Int → List (Run Unit)} {y : Int} (h : R y ≠ []) : bandF R y = some (R y) := by unfold bandF; rw [if_neg h]
theorem bandF_nil {R : Int → List (Run Unit)} {y : Int} (h : R y = []) : bandF R y = none := by unfold bandF; rw [if_pos h]
/-- The same row again: the last band grows. -/
theorem Band.same {R : Int → List (Run Unit)} {ys : List Int} {k from' : Nat} {last : List (Run Unit)} (h : Band R ys k from' last) (h0 : 0 < k) (hk : k + 1 < ys.length) (e : R ys[k] = last) :
    from' ≤ (outK R ys k).length ∧ upTo (setY1 (ys[k + 1] - 1)) from' (outK R ys k).length (outK R ys k) = outK R ys (k + 1) ∧ Band R ys (k + 1) from' last := by
  obtain ⟨j, rfl⟩ : ∃ j, k = j + 1 := ⟨k - 1, by omega⟩
  obtain ⟨hj, h1, h2⟩ := h.2 j rfl
  unfold outK
  rw [runsK_succ hk]
  unfold Can.step
  rcases h2 with ⟨h2, h3⟩ | ⟨B, b, h2, h3, h4, h5⟩
  · have hz : R ys[j + 1] = [] := by rw [e, h2]
    rw [bandF_nil hz]
    simp only
    refine ⟨by rw [List.length_map, h3]; exact Nat.le_refl _, ?_, fun e0 => (by omega), fun j' ej => ?_⟩
    · rw [h3, List.length_map, upTo_zero]
    · have : j' = j + 1 := by omega
      subst this
      refine ⟨hk, e.symm, .inl ⟨h2, ?_⟩⟩
      rw [h3, runsK_succ hk]
      unfold Can.step
      rw [bandF_nil hz]
  · have hn : R ys[j + 1] ≠ [] := by
      intro hn
      have hB := h2
      have hl := runsK_lab (f := bandF R) (xs := ys) (j + 1) b (by rw [h2]; simp)
      obtain ⟨y, hy⟩ := hl
      unfold bandF at hy
      split at hy
      · cases hy
      · rename_i hne
        have := Option.some.inj hy
        rw [h4, ← e, hn] at this
        exact hne this
    rw [bandF_of hn, h2]
    simp only
    rw [push_more h3 (by rw [h4, e])]
    rw [emit_append, emit_append, emit_one, emit_one, List.map_append, List.map_append, band_toRe, band_toRe]
    refine ⟨by rw [List.length_append, List.length_map, h5]; omega, ?_, fun e0 => (by omega), fun j' ej => ?_⟩
    · have hl : from' = ((emit B).map toRe).length := by rw [h5, List.length_map]
      rw [hl, upTo_all, List.map_map]
      congr 1
      rw [h4, e]
      simp [Function.comp_def, rowRe, setY1]
    · have : j' = j + 1 := by omega
      subst this
      refine ⟨hk, e.symm, .inr ⟨B, ⟨b.a, ys[j + 1 + 1] - 1, R ys[j + 1]⟩, ?_, Int.sub_add_cancel _ _, e, h5⟩⟩
      rw [runsK_succ hk]
      unfold Can.step
      rw [bandF_of hn, h2]
      simp only
      rw [push_more h3 (by rw [h4, e])]
/-- Another row: a new band. -/
theorem Band.fresh {R : Int → List (Run Unit)} {ys : List Int} (hs : ys.Pairwise (· < ·)) {k from' : Nat} {last : List (Run Unit)} (h : Band R ys k from' last) (hk : k + 1 < ys.length) (e : ¬ (0 < k ∧ R ys[k] = last)) :
    outK R ys k ++ (R ys[k]).map (rowRe ys[k] (ys[k + 1] - 1)) = outK R ys (k + 1) ∧ Band R ys (k + 1) (outK R ys k).length (R ys[k]) := by
  have hpush : ∀ z, bandF R ys[k] = some z → push (runsK (bandF R) ys k) ys[k] ys[k + 1] z = runsK (bandF R) ys k ++ [⟨ys[k], ys[k + 1] - 1, z⟩] := fun z hz => push_fresh fun R' r er hb hrz => by
    obtain ⟨j, hj, ej, hf⟩ := (runsK_end hs (by omega) er).2 hb
    obtain ⟨hj', h1, _⟩ := h.2 j ej
    refine e ⟨by omega, ?_⟩
    rw [h1]
    rw [hrz, ← hz] at hf
    exact (bandF_eq.1 hf).symm
  unfold outK
  rw [runsK_succ hk]
  unfold Can.step
  by_cases hz : R ys[k] = []
  · rw [bandF_nil hz]
    simp only
    rw [hz]
    refine ⟨by simp, fun e0 => (by omega), fun j' ej => ?_⟩
    have : j' = k := by omega
    subst this
    refine ⟨hk, hz.symm, .inl ⟨rfl, ?_⟩⟩
    rw [List.length_map, runsK_succ hk]
    unfold Can.step
    rw [bandF_nil hz]
  · rw [bandF_of hz]
    simp only
    rw [hpush _ (bandF_of hz), emit_append, emit_one, List.map_append, band_toRe]
    refine ⟨rfl, fun e0 => (by omega), fun j' ej => ?_⟩
    have : j' = k := by omega
    subst this
    refine ⟨hk, rfl, .inr ⟨runsK (bandF R) ys j', ⟨ys[j'], ys[j' + 1] - 1, R ys[j']⟩, ?_, Int.sub_add_cancel _ _, rfl, by rw [List.length_map]⟩⟩
    rw [runsK_succ hk]
    unfold Can.step
    rw [bandF_of hz]
    exact hpush _ (bandF_of hz)
theorem Band.zero (R : Int → List (Run Unit)) (ys : List Int) : Band R ys 0 0 [] := ⟨fun _ => ⟨rfl, rfl⟩, fun j e => by omega⟩
end Go.Proofs.Ytoooldijnilpaaa
namespace Go.Proofs.Ytoooldijnilpaaa
set_option linter.all false
open Go.RowKit AM Can
set_option maxRecDepth 10000
attribute [local simp] aw_skip' aw_region' aw_seq' aw_cond' aw_block' aw_loop' aw_exit' aw_label' aw_ret' aops_nil' aops_cons' aop' aMove aAssign aPick aAlloc aBox aBuild aBuildSlice aLoad aLoadOwn aStore aStoreOwn isOwn delR aNilCheck aBin aMakeFunc aFieldAddr aField aIndexAddr aExtract aSliceOp aSlice aCallOp aCall' aLen aLenMap aDelete aMM aUn aConv aIface aAssert aMakeMap aLookup aMapUpdate aRange aNext aEntry entsOf keyB lookV aAppend putK layK eval evalV AM.valOf getF putF setF del SV.refers cellsAt rootSV plains shift ldV V.exact V.exactL V.ofValue V.ofPart V.ofCell V.cells V.one Value.oneCell' fitB qSeq qBlock getB afin aret resVs resV resTmps shareF evalS tupV valsS valsV pickV calm calmB lenV useOf feeds looks isT newsV partsV fillV putAt zerosV fitsNil nilB isEq isNeq awx_skip' awx_region' awx_seq' awx_cond' awx_block' awx_loop' awx_exit' awx_label' awx_ret' xops_nil' xops_cons' xop' xload xcall' addO delO inO putD memB Mix.effB Mix.laysB keysF badK subW weakV zeroRow yops_nil' yops_cons' yop' yload yindex yfield ylen oldO dropO takeO oldL exactB
attribute [local simp] awz_skip' awz_region' awz_seq' awz_cond' awz_block' awz_loop' awz_exit' awz_label' awz_ret' zops_nil' zops_cons' zop' zload zcall' z0 new0 remF old0 dltB

namespace AM
/-- What a stretch of code promises that no jump leaves. -/
def qScope (Q : Exit → St → Prop) : Exit → St → Prop
  | .goto _, _ => False
  | e, s => Q e s
theorem qScope_n {Q : Exit → St → Prop} {s : St} : qScope Q .normal s = Q .normal s := rfl
theorem qScope_r {Q : Exit → St → Prop} {s : St} : qScope Q .ret s = Q .ret s := rfl
theorem qScope_e {Q : Exit → St → Prop} {s : St} {i : Nat} : qScope Q (.exit i) s = Q (.exit i) s := rfl
theorem AW.scope {P : Program} {N : Nat} {x : Code} {Q : Exit → St → Prop} {s : St} (h : AW P N x (qScope Q) s) : AW P N (.scope x) Q s := fun c a w hs => wp_scope_straight (wp_mono (h c a w hs) fun e a' w' he => by
  obtain ⟨c', s', k1, k2, k3⟩ := he
  cases e with
  | goto l => exact k3.elim
  | _ => exact ⟨c', s', k1, k2, k3⟩)
theorem AFn.imp {P : Program} {f : FuncId} {xs : List V} {H : List Bk} {Q Q' : V → List Bk → Prop} (h : AFn P f xs H Q) (k : ∀ y H, Q y H → Q' y H) : AFn P f xs H Q' := ⟨h.1, fun c w vs hi hs hr => (h.2 c w vs hi hs hr).mono fun e w' he => by
  obtain ⟨v, y, H', c', a1, a2, a3, a4, a5, q⟩ := he
  exact ⟨v, y, H', c', a1, a2, a3, a4, a5, k _ _ q⟩⟩
end AM
theorem rowP (l : List Re) (y : Int) (hl : l.length ≤ 1000) (hr : ∀ r ∈ l, rightR r = true) : PFn Try.prog 98 [slR l, .sc (.int .i64 y)] (slN (rowC l y)) :=
  (rowRuns l y hl hr).imp fun v H h => by
    obtain ⟨out, rfl, h1, _⟩ := h
    rw [h1.uniq (rowC_can l y)]
theorem eqRn (a b a' b' : Int) : eqT Try.prog 10 124 (.agg #[.int .i64 a, .int .i64 b]) (.agg #[.int .i64 a', .int .i64 b']) = some (a == a' && (b == b' && true)) := by kernel_rfl
theorem gRn : Try.prog.eqGuardType Try.prog.depth 124 = false := by kernel_rfl
theorem rn_eq {a b : Run Unit} : a = b ↔ a.a = b.a ∧ a.b = b.b := by
  cases a; cases b; simp
def SrI (xs ys : List (Run Unit)) (k : Nat) (F : Fr) (H : List Bk) : Prop := xs.take k = ys.take k ∧ H = [] ∧ F = [(0, .v (slN xs)), (1, .v (slN ys)), (12, .v (.sc (.int .i64 xs.length))), (13, .v (.sc (.int .i64 k)))]
theorem eqRuns (xs ys : List (Run Unit)) (hx : xs.length ≤ 1000000000) : PFn Try.prog 99 [slN xs, slN ys] (.sc (.bool (decide (xs = ys)))) := by
  refine AFn.intro (fn := Try.f99) (by kernel_rfl) rfl (by kernel_rfl) (by simp) (AW.ofx [] mixed (by kernel_rfl) ?_)
  simp only [Try.f99, argsF]
  simp [slN]
  by_cases hl : xs.length = ys.length
  · simp [slN, hl]
    refine AW.count xs.length (SrI xs ys) ⟨_, ?_, by simp, rfl, rfl⟩ ?_
    · simp [subW, weakV, getF, slN, hl]
    rintro k F H hk ⟨ht, rfl, rfl⟩
    refine AW.ofx [] mixed (by kernel_rfl) ?_
    by_cases hlt : k < xs.length
    · have hlt' : k < ys.length := by omega
      have w1 : IntKind.i64.wrap ((k : Int) + 1) = (k : Int) + 1 := by rw [wrap_i64] <;> omega
      simp [slN, hlt, hlt', rowN, eqRn, gRn, w1]
      refine gd.intro (fun e => ?_) (fun e => ?_)
      · have : ¬ xs = ys := fun e' => by
          subst e'
          simp at e
        simp [this]
      · have he : xs[k] = ys[k] := by
          rw [rn_eq]
          simpa using e
        refine ⟨_, ?_, ?_, rfl, rfl⟩
        · simp [subW, weakV, getF, slN, hl]
        · rw [List.take_succ_eq_append_getElem hlt, List.take_succ_eq_append_getElem hlt', ht, he]
    · have hk' : k = xs.length := by omega
      have he : xs = ys := by
        rw [hk', List.take_length, hl, List.take_length] at ht
        exact ht
      simp [slN, hlt]
      exact he
  · have : ¬ xs = ys := fun e => hl (by rw [e])
    have hl' : ((xs.length : Int) != ys.length) = true := by simp; omega
    simp [hl', this]
end Go.Proofs.Ytoooldijnilpaaa
namespace Go.Proofs.Ytoooldijnilpaaa
set_option linter.all false
open Go.RowKit AM Can
set_option maxRecDepth 10000
attribute [local simp] aw_skip' aw_region' aw_seq' aw_cond' aw_block' aw_loop' aw_exit' aw_label' aw_ret' aops_nil' aops_cons' aop' aMove aAssign aPick aAlloc aBox aBuild aBuildSlice aLoad aLoadOwn aStore aStoreOwn isOwn delR aNilCheck aBin aMakeFunc aFieldAddr aField aIndexAddr aExtract aSliceOp aSlice aCallOp aCall' aLen aLenMap aDelete aMM aUn aConv aIface aAssert aMakeMap aLookup aMapUpdate aRange aNext aEntry entsOf keyB lookV aAppend putK layK eval evalV AM.valOf getF putF setF del SV.refers cellsAt rootSV plains shift ldV V.exact V.exactL V.ofValue V.ofPart V.ofCell V.cells V.one Value.oneCell' fitB qSeq qBlock getB afin aret resVs resV resTmps shareF evalS tupV valsS valsV pickV calm calmB lenV useOf feeds looks isT newsV partsV fillV putAt zerosV fitsNil nilB isEq isNeq awx_skip' awx_region' awx_seq' awx_cond' awx_block' awx_loop' awx_exit' awx_label' awx_ret' xops_nil' xops_cons' xop' xload xcall' addO delO inO putD memB Mix.effB Mix.laysB keysF badK subW weakV zeroRow yops_nil' yops_cons' yop' yload yindex yfield ylen oldO dropO takeO oldL exactB
attribute [local simp] awz_skip' awz_region' awz_seq' awz_cond' awz_block' awz_loop' awz_exit' awz_label' awz_ret' zops_nil' zops_cons' zop' zload zcall' z0 new0 remF old0 dltB

theorem setY1_cs (v : Int) (r : Re) : r.cs.set 3 (.sc (.int .i64 v)) = (setY1 v r).cs := rfl
theorem poke_y1 {o : List Re} {v : Int} {j : Nat} (h : j < o.length) : (o.flatMap Re.cs).set (j * 4 + 3) (.sc (.int .i64 v)) = (modN (setY1 v) j o).flatMap Re.cs :=
  flat_mod (enc := Re.cs) (sz := 4) (fun _ => rfl) (by decide) (setY1_cs v) h
def FmI (a b : List Re) (f : FuncId) (R : Int → List (Run Unit)) (ys : List Int) (k : Nat) (F : Fr) (H : List Bk) : Prop := ∃ from' last lv, Band R ys k from' last ∧ (0 < k → lv = slN last) ∧
  F = [(0, .v (slR a)), (1, .v (slR b)), (2, .v (.fn (.func f) [] [])), (7, ownR (outK R ys k)), (8, .v lv), (9, .v (.sc (.int .i64 from'))), (10, .v (slI ys)), (11, .v (.sc (.int .i64 k)))]
def FsI (a b : List Re) (f : FuncId) (o : List Re) (v : Int) (from' : Nat) (last : List (Run Unit)) (ys : List Int) (k : Nat) (j : Nat) (F : Fr) (H : List Bk) : Prop :=
  F = [(0, .v (slR a)), (1, .v (slR b)), (2, .v (.fn (.func f) [] [])), (7, ownR (upTo (setY1 v) from' (from' + j) o)), (8, .v (slN last)), (9, .v (.sc (.int .i64 from'))), (10, .v (slI ys)), (11, .v (.sc (.int .i64 k))), (13, .v (.sc (.int .i64 (from' + j : Nat))))]
def FaI (a b : List Re) (f : FuncId) (o : List Re) (y v : Int) (now : List (Run Unit)) (ys : List Int) (k : Nat) (j : Nat) (F : Fr) (H : List Bk) : Prop :=
  F = [(0, .v (slR a)), (1, .v (slR b)), (2, .v (.fn (.func f) [] [])), (7, ownR (o ++ (now.take j).map (rowRe y v))), (8, .v (slN now)), (9, .v (.sc (.int .i64 o.length))), (10, .v (slI ys)), (11, .v (.sc (.int .i64 k))), (68, .v (slN now)), (69, .v (.sc (.int .i64 now.length))), (70, .v (.sc (.int .i64 j)))]
set_option maxHeartbeats 4000000 in
theorem rform (a b : List Re) {f : FuncId} {cf : Bool → Bool → Bool} (hf : Cnt f cf) (ha : a.length ≤ 1000) (hb : b.length ≤ 1000) (hra : ∀ r ∈ a, rightR r = true) (hrb : ∀ r ∈ b, rightR r = true) :
    PFn Try.prog 70 [slR a, slR b, .fn (.func f) [] []] (slR ((formL cf a b).map toRe)) := by
  have hY := rrows a b (by omega) (by omega) fun r hr => by
    rcases List.mem_append.1 hr with h | h
    · exact hra _ h
    · exact hrb _ h
  have c1 := slR_closed a
  have c2 := slR_closed b
  have c3 := slI_closed (numsC (endsY (a ++ b)))
  have hA := fun y => rowP a y ha hra
  have hB := fun y => rowP b y hb hrb
  have hJ : ∀ y, PFn Try.prog 97 [slN (rowC a y), slN (rowC b y), .fn (.func f) [] []] (slN (joinC cf a b y)) := fun y => rjoined (rowC a y) (rowC b y) hf (by have := rowC_len a y; omega) (by have := rowC_len b y; omega) fun r hr => by
    rcases List.mem_append.1 hr with h | h
    · exact rowC_in h
    · exact rowC_in h
  have hout := formP hf.no a b
  have hRl : ∀ y, (joinC cf a b y).length ≤ 10000 := fun y => by have := joinC_len cf a b y; omega
  have hin : ∀ x ∈ numsC (endsY (a ++ b)), 0 ≤ x ∧ x ≤ 65536 := fun x hx => by
    rw [(numsC_spec _).2] at hx
    unfold endsY at hx
    obtain ⟨r, hr, hx⟩ := List.mem_flatMap.1 hx
    have hrr : rightR r = true := by
      rcases List.mem_append.1 hr with h | h
      · exact hra _ h
      · exact hrb _ h
    have := rightR_iff.1 hrr
    simp at hx
    omega
  have hlen := numsC_len (endsY (a ++ b))
  have hs := (numsC_spec (endsY (a ++ b))).1
  have hl2 : (endsY (a ++ b)).length = 2 * (a ++ b).length := ends_len2 _
  rw [List.length_append] at hl2
  refine AFn.intro (fn := Try.f70) (by kernel_rfl) rfl (by kernel_rfl) (by simp) ?_
  simp only [Try.f70, argsF]
  refine AW.seq (AW.ofz [(8, 13, [0, 10, 11, 1, 2])] mixed (by kernel_rfl) ?_)
  simp
  refine AW.scope ?_
  refine AW.ofz [(8, 13, [0, 10, 11, 1, 2])] mixed (by kernel_rfl) ?_
  simp [slR, qScope_n, qScope_r, qScope_e]
  unfold duo slR at hY
  refine callK.pure hY (by simp [V.closedL, V.closed, closed_flat (enc := Re.cs) (fun _ => rfl)]) c3 ?_
  clear hY
  generalize numsC (endsY (a ++ b)) = ys at *
  simp [qScope_n, qScope_r, qScope_e]
  refine AW.count (ys.length - 1) (FmI a b f (joinC cf a b) ys) ⟨_, ?_, 0, [], .nil, Band.zero _ _, fun h => absurd h (Nat.lt_irrefl _), rfl⟩ ?_
  · simp [subW, weakV, getF, ownR, zeroRow, outK, runsK, emit, slR]
  rintro k F H hk ⟨from', last, lv, hB0, hlv, rfl⟩
  refine AW.ofz [(8, 13, [0, 10, 11, 1, 2])] mixed (by kernel_rfl) ?_
  have w1 : IntKind.i64.wrap ((k : Int) + 1) = ((k + 1 : Nat) : Int) := by rw [wrap_i64] <;> omega
  by_cases hlt : k + 1 < ys.length
  rotate_left
  · have hkk : k = ys.length - 1 := by omega
    have hlt' : ¬ (k : Int) + 1 < ys.length := by omega
    simp [slI, w1, hlt, hlt', ownR, qScope_n, qScope_r, qScope_e]
    have := congrArg (List.map toRe) hout
    rw [← hkk] at this
    unfold outK
    rw [this]
    simp
  have hk0 : k < ys.length := by omega
  have hlt' : (k : Int) + 1 < ys.length := by omega
  have hr1 := rowI hk0
  have hr2 : AM.rowAt 1 (ints ys) ((k : Int) + 1) = [.sc (.int .i64 ys[k + 1])] := by simpa using rowI hlt
  have hb1 := hin _ (List.getElem_mem hk0)
  have hb2 := hin _ (List.getElem_mem hlt)
  have wm : IntKind.i64.wrap (ys[k + 1] - 1) = ys[k + 1] - 1 := by rw [wrap_i64] <;> omega
  simp [slI, w1, hlt, hlt', hk0, hr1, hr2, ownR, qScope_n, qScope_r, qScope_e]
  refine xcallK.of (hA _) (by simp [V.closedL, V.closed, c1]) (slN_closed _) ?_
  simp [slI, w1, hlt, hlt', hk0, hr1, hr2]
  refine xcallK.of (hB _) (by simp [V.closedL, V.closed, c2]) (slN_closed _) ?_
  simp
  refine callK.pure (hJ _) (by simp [V.closedL, slN_closed]; rfl) (slN_closed _) ?_
  simp [qScope_n, qScope_r, qScope_e]
  have hol : (outK (joinC cf a b) ys k).length ≤ 100000000 := by
    have h1 := emit_len (R := joinC cf a b) (ys := ys) hRl k
    unfold outK
    rw [List.length_map]
    omega
  have w1' : IntKind.i64.wrap ((k : Int) + 1) = (k : Int) + 1 := by rw [wrap_i64] <;> omega
  by_cases hsm : 0 < k ∧ joinC cf a b ys[k] = last
  · obtain ⟨hk1, he⟩ := hsm
    obtain ⟨hS1, hS2, hS3⟩ := hB0.same hk1 hlt he
    have hq := eqRuns (joinC cf a b ys[k]) last (by have := hRl ys[k]; omega)
    rw [decide_eq_true he] at hq
    rw [hlv hk1]
    simp [hk1]
    refine callK.pure hq (by simp [V.closedL, slN_closed]) rfl ?_
    have hfin : ∀ F1 H, F1 = [(0, .v (slR a)), (1, .v (slR b)), (2, .v (.fn (.func f) [] [])), (7, ownR (upTo (setY1 (ys[k + 1] - 1)) from' (outK (joinC cf a b) ys k).length (outK (joinC cf a b) ys k))), (8, .v (slN last)), (9, .v (.sc (.int .i64 from'))), (10, .v (slI ys)), (11, .v (.sc (.int .i64 (k + 1 : Nat))))] → FmI a b f (joinC cf a b) ys (k + 1) F1 H := fun F1 H e => ⟨from', last, _, hS3, fun _ => rfl, by rw [e, hS2]⟩
    generalize outK (joinC cf a b) ys k = out at *
    simp [qScope_n, qScope_r, qScope_e]
    refine AW.count (out.length - from') (FsI a b f out (ys[k + 1] - 1) from' last ys k) ⟨_, ?_, rfl⟩ ?_
    · simp [subW, weakV, getF, ownR, slI, upTo_zero]
    rintro j F H2 hj rfl
    refine AW.ofz [(8, 13, [0, 10, 11, 1, 2])] mixed (by kernel_rfl) ?_
    have w2 : IntKind.i64.wrap ((from' : Int) + j + 1) = (from' : Int) + j + 1 := by rw [wrap_i64] <;> omega
    by_cases hjl : from' + j < out.length
    · have hjl' : (from' : Int) + j < out.length := by omega
      have ht : ((from' : Int) + j).toNat = from' + j := by omega
      have hst := upTo_succ (f := setY1 (ys[k + 1] - 1)) (a := from') (k := from' + j) (xs := out) (by omega)
      have hpk := poke_y1 (o := upTo (setY1 (ys[k + 1] - 1)) from' (from' + j) out) (v := ys[k + 1] - 1) (j := from' + j) (by rw [upTo_len]; exact hjl)
      have hfl := flat_len' (enc := Re.cs) (sz := 4) (fun _ => rfl) (upTo (setY1 (ys[k + 1] - 1)) from' (from' + j) out)
      simp [slI, w1', w2, hlt, hlt', hk0, hr1, hr2, ownR, hjl, hjl', ht, upTo_len, wm, qScope_n, qScope_r, qScope_e]
      have hset : List.take ((from' + j) * 4 + 3) ((upTo (setY1 (ys[k + 1] - 1)) from' (from' + j) out).flatMap Re.cs) ++ (V.sc (.int .i64 (ys[k + 1] - 1)) :: List.drop ((from' + j) * 4 + 3 + 1) ((upTo (setY1 (ys[k + 1] - 1)) from' (from' + j) out).flatMap Re.cs)) = (upTo (setY1 (ys[k + 1] - 1)) from' (from' + (j + 1)) out).flatMap Re.cs := by
        rw [show from' + (j + 1) = from' + j + 1 by omega, ← hst, ← hpk, List.set_eq_take_append_cons_drop, if_pos (by rw [hfl, upTo_len]; omega)]
      rw [hset]
      refine ⟨by omega, by omega, by simp [upTo_len] at hfl; omega, by omega, _, ?_, rfl⟩
      simp [subW, weakV, getF, ownR, slI, upTo_len]
      omega
    · have hjj : from' + j = out.length := by omega
      have hjl' : ¬ (from' : Int) + j < out.length := by omega
      rw [hjj]
      simp [slI, w1', w2, hlt, hlt', hk0, hr1, hr2, ownR, hjl, hjl', upTo_len, qScope_n, qScope_r, qScope_e]
      refine ⟨by omega, _, ?_, hfin _ _ rfl⟩
      simp [subW, weakV, getF, ownR, slI, upTo_len]
  · obtain ⟨hF1, hF2⟩ := hB0.fresh hs hlt hsm
    have hol2 := hRl ys[k]
    have hfin : ∀ F1 H, F1 = [(0, .v (slR a)), (1, .v (slR b)), (2, .v (.fn (.func f) [] [])), (7, ownR (outK (joinC cf a b) ys k ++ (joinC cf a b ys[k]).map (rowRe ys[k] (ys[k + 1] - 1)))), (8, .v (slN (joinC cf a b ys[k]))), (9, .v (.sc (.int .i64 (outK (joinC cf a b) ys k).length))), (10, .v (slI ys)), (11, .v (.sc (.int .i64 (k + 1 : Nat))))] → FmI a b f (joinC cf a b) ys (k + 1) F1 H := fun F1 H e => ⟨_, _, _, hF2, fun _ => rfl, by rw [e, hF1]⟩
    by_cases hk1 : 0 < k
    case' pos =>
      have hq := eqRuns (joinC cf a b ys[k]) last (by omega)
      rw [decide_eq_false (fun e => hsm ⟨hk1, e⟩)] at hq
      rw [hlv hk1]
      simp [hk1]
      refine callK.pure hq (by simp [V.closedL, slN_closed]) rfl ?_
      generalize outK (joinC cf a b) ys k = out at *
      generalize joinC cf a b ys[k] = now at *
      simp [slN, ownR, qScope_n, qScope_r, qScope_e]
    case' neg =>
      generalize outK (joinC cf a b) ys k = out at *
      generalize joinC cf a b ys[k] = now at *
      simp [hk1, slN, ownR, qScope_n, qScope_r, qScope_e]
    all_goals
      refine AW.count now.length (FaI a b f out ys[k] (ys[k + 1] - 1) now ys k) ⟨_, ?_, rfl⟩ ?_
      · simp [subW, weakV, getF, ownR, slI, slN]
      rintro j F H2 hj rfl
      refine AW.ofz [(8, 13, [0, 10, 11, 1, 2])] mixed (by kernel_rfl) ?_
      by_cases hjl : j < now.length
      · have hrj := rowN hjl
        have w2 : IntKind.i64.wrap ((j : Int) + 1) = (j : Int) + 1 := by rw [wrap_i64] <;> omega
        have hst := List.take_succ_eq_append_getElem hjl
        simp [slN, slI, ownR, hjl, hrj, setL, w1', w2, hlt, hlt', hk0, hr1, hr2, wm, qScope_n, qScope_r, qScope_e]
        have e1 : ownR (out ++ (now.take (j + 1)).map (rowRe ys[k] (ys[k + 1] - 1))) = .own true 61 (out.length + min j now.length + 1) 4
            (out.flatMap Re.cs ++ (((now.map (rowRe ys[k] (ys[k + 1] - 1))).take j).flatMap Re.cs ++ [.sc (.int .i64 now[j].a), .sc (.int .i64 ys[k]), .sc (.int .i64 now[j].b), .sc (.int .i64 (ys[k + 1] - 1))])) := by
          unfold ownR
          rw [hst, List.map_append, List.flatMap_append, List.flatMap_append, List.length_append, List.length_append, List.length_map, List.length_take, List.map_take]
          rfl
        refine ⟨by omega, ⟨by omega, by omega⟩, _, ?_, rfl⟩
        rw [e1]
        simp [subW, weakV, getF, slI, slN]
      · have hjj : j = now.length := by omega
        subst hjj
        simp [slN, slI, ownR, w1', hlt, hlt', hk0, qScope_n, qScope_r, qScope_e]
        refine ⟨by omega, _, ?_, hfin _ _ rfl⟩
        simp [subW, weakV, getF, ownR, slI, slN]
end Go.Proofs.Ytoooldijnilpaaa
