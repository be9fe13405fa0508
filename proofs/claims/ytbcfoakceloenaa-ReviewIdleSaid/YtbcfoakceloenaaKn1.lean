/- Grant: the plain laws. -/
import Derived.Test.YtbcfoakceloenaaKk1
namespace Go.Proofs.Ytbcfoakceloenaa
set_option linter.all false
open Go.RowKit AM Can

/-! ## Labels -/
theorem foldl_same {α β : Type} {f : β → α → β} : ∀ {l : List α} {s : β}, (∀ x ∈ l, ∀ s, f s x = s) → l.foldl f s = s
  | [], _, _ => rfl
  | x :: l, s, h => by
    rw [List.foldl_cons, h x (by simp), foldl_same fun y hy => h y (by simp [hy])]
theorem zoomL_none {q : Ru → Bool} {l : List Ru} (h : ∀ r ∈ l, q r = false) : zoomL q l = 0 := by
  unfold zoomL
  rw [foldl_same fun r hr s => by simp [zoomS, h r hr]]
  rfl
theorem zoomL_filter {q b : Ru → Bool} (l : List Ru) : zoomL q (l.filter b) = zoomL (fun r => b r && q r) l := by
  have go : ∀ (l : List Ru) (s : Int × Int), (l.filter b).foldl (zoomS q) s = l.foldl (zoomS fun r => b r && q r) s := by
    intro l
    induction l with
    | nil => intro s; rfl
    | cons r l ih =>
      intro s
      rw [List.filter_cons, List.foldl_cons]
      cases hb : b r with
      | true =>
        rw [if_pos rfl, List.foldl_cons, ih]
        congr 1
        simp [zoomS, hb]
      | false =>
        rw [if_neg (by decide), ih]
        congr 1
        simp [zoomS, hb]
  unfold zoomL
  rw [go]
theorem for2_kind {r : Ru} {ro ti la : Int} {p : Pt} (h : for2U ro ti la p r = true) : r.kind = 4 ∨ r.kind = 5 := by
  have h1 := for2_right h
  unfold for2U forU at h
  simp at h
  unfold ruRight at h1
  split at h1
  · rename_i h6
    exact absurd h6 h.1.1.1.1.1.1.2
  · simp at h1
    exact h1.1.1.1.1.1.1.1
theorem zoomR_L {l : List Ru} (ha : l.all ruRight = true) (ro ti la : Int) (p : Pt) : zoomR l ro ti la p = zoomL (for2U ro ti la p) l := by
  unfold zoomR
  rw [if_pos ha]
  exact (zoom_doc (fun r _ h => for2_kind h) fun r _ h => (ruRight_zoom (for2_right h)).2).symm
theorem zoomR_P {l : List Ru} (ha : l.all ruRight = true) (ro ti la : Int) (p : Pt) : zoomR l ro ti la p = zoomL (hasU p) (forL l ro ti la) := by
  rw [zoomR_L ha]
  unfold forL
  rw [zoomL_filter]
  rfl
def F2 (l : List Ru) (ro ti la : Int) (x y : Int) : Option Int := labZ (zoomR l ro ti la ⟨x, y⟩)
theorem F2_some {l : List Ru} {ro ti la x y z : Int} : F2 l ro ti la x y = some z ↔ zoomR l ro ti la ⟨x, y⟩ = z ∧ z ≠ 0 := by
  unfold F2 labZ
  constructor
  · intro h
    split at h
    · cases h
    · cases h; exact ⟨rfl, by assumption⟩
  · rintro ⟨rfl, h⟩
    rw [if_neg h]
theorem F2_none {l : List Ru} {ro ti la x y : Int} : F2 l ro ti la x y = none ↔ zoomR l ro ti la ⟨x, y⟩ = 0 := by
  unfold F2 labZ
  split
  · simpa
  · simpa
/-! ## Where a label may change -/
theorem hasB_low {l : List Re} {xs : List Int} (hx : ∀ r ∈ l, r.x0 ∈ xs ∧ r.x1 + 1 ∈ xs) {x y : Int} (h : (∀ c ∈ xs, ¬ c ≤ x) ∨ ∀ c ∈ xs, c ≤ x) : hasB l ⟨x, y⟩ = false := by
  rw [Bool.eq_false_iff]
  intro e
  obtain ⟨r, hr, h1, h2, h3⟩ := hasB_iff.1 e
  simp only at h2
  rcases h with h | h
  · exact h _ (hx r hr).1 h2.1
  · have := h _ (hx r hr).2
    omega
theorem hasB_lowY {l : List Re} {ys : List Int} (hy : ∀ r ∈ l, r.y0 ∈ ys ∧ r.y1 + 1 ∈ ys) {x y : Int} (h : (∀ c ∈ ys, ¬ c ≤ y) ∨ ∀ c ∈ ys, c ≤ y) : hasB l ⟨x, y⟩ = false := by
  rw [Bool.eq_false_iff]
  intro e
  obtain ⟨r, hr, h1, h2, h3⟩ := hasB_iff.1 e
  simp only at h3
  rcases h with h | h
  · exact h _ (hy r hr).1 h3.1
  · have := h _ (hy r hr).2
    omega
section
variable {l : List Ru} {b : Ru → Bool} {G : Int → Int → Option Int} (hG : ∀ x y, G x y = labZ (zoomL (fun r => b r && hasB r.boxes ⟨x, y⟩) l))
include hG
theorem cutsX {xs : List Int} (hs : xs.Pairwise (· < ·)) (hx : ∀ r ∈ l, ∀ c ∈ r.boxes, c.x0 ∈ xs ∧ c.x1 + 1 ∈ xs) (y : Int) : Cuts (fun x => G x y) xs := by
  have e0 : labZ 0 = none := rfl
  refine ⟨hs, fun x x' h => ?_, fun x h => ?_, fun x h => ?_⟩
  · simp only [hG]
    rw [zoomL_congr fun r hr => by rw [hasB_sameX (hx r hr) h]]
  · simp only [hG]
    rw [zoomL_none fun r hr => by rw [hasB_low (hx r hr) (.inl h)]; simp, e0]
  · simp only [hG]
    rw [zoomL_none fun r hr => by rw [hasB_low (hx r hr) (.inr h)]; simp, e0]
theorem cutsY {ys : List Int} (hs : ys.Pairwise (· < ·)) (hy : ∀ r ∈ l, ∀ c ∈ r.boxes, c.y0 ∈ ys ∧ c.y1 + 1 ∈ ys) : CutsY G ys := by
  have e0 : labZ 0 = none := rfl
  refine ⟨hs, fun x y y' h => ?_, fun x y h => ?_, fun x y h => ?_⟩
  · rw [hG, hG, zoomL_congr fun r hr => by rw [hasB_sameY (hy r hr) h]]
  · rw [hG, zoomL_none fun r hr => by rw [hasB_lowY (hy r hr) (.inl h)]; simp, e0]
  · rw [hG, zoomL_none fun r hr => by rw [hasB_lowY (hy r hr) (.inr h)]; simp, e0]
end
theorem mem_boxes {l : List Ru} {r : Ru} (hr : r ∈ l) {c : Re} (hc : c ∈ r.boxes) : c ∈ boxesU l := boxesU_mem hr hc
/-! ## Forms -/
theorem F2_doc {l : List Ru} (ha : l.all ruRight = true) (ro ti la x y : Int) : F2 l ro ti la x y = labZ (zoomL (fun r => forU r ro ti la && hasB r.boxes ⟨x, y⟩) l) := by
  unfold F2
  rw [zoomR_L ha]
  rfl
theorem F2_prog {l : List Ru} (ha : l.all ruRight = true) (ro ti la x y : Int) : F2 l ro ti la x y = labZ (zoomL (fun r => true && hasB r.boxes ⟨x, y⟩) (forL l ro ti la)) := by
  unfold F2
  rw [zoomR_P ha]
  rfl
theorem form_doc {l : List Ru} (ha : l.all ruRight = true) (ro ti la : Int) : Can.Form (F2 l ro ti la) (patR l ro ti la) := by
  have hG := F2_doc ha ro ti la
  have mx : ∀ d, ∀ c ∈ boxesU l, lo d c ∈ edgesR (boxesU l) d ∧ hi d c + 1 ∈ edgesR (boxesU l) d := fun d c hc => ⟨((edgesR_spec _ d).2 _).2 (.inr (.inr ⟨c, hc, .inl rfl⟩)), ((edgesR_spec _ d).2 _).2 (.inr (.inr ⟨c, hc, .inr rfl⟩))⟩
  have hR : Can.Rows (F2 l ro ti la) (rowD l ro ti la (edgesR (boxesU l) false)) := fun y => (cutsX hG (edgesR_spec _ _).1 (fun r hr c hc => mx false c (mem_boxes hr hc)) y).can
  exact (cutsY hG (edgesR_spec _ _).1 (fun r hr c hc => mx true c (mem_boxes hr hc))).form hR
theorem form_prog {l : List Ru} (ha : l.all ruRight = true) (ro ti la : Int) : Can.Form (F2 l ro ti la) (patF l ro ti la) := by
  have hG := F2_prog ha ro ti la
  have mx : ∀ d, ∀ c ∈ boxesU (forL l ro ti la), lo d c ∈ cutsG (forL l ro ti la) d ∧ hi d c + 1 ∈ cutsG (forL l ro ti la) d := fun d c hc => ⟨((numsC_spec _).2 _).2 (endsD_mem.2 ⟨c, hc, .inl rfl⟩), ((numsC_spec _).2 _).2 (endsD_mem.2 ⟨c, hc, .inr rfl⟩)⟩
  have hl : ∀ y x, labU (forL l ro ti la) y x = F2 l ro ti la x y := fun y x => by
    unfold F2 labU
    rw [zoomR_P ha]
  have hR : Can.Rows (F2 l ro ti la) (rowG (forL l ro ti la) (cutsG (forL l ro ti la) false)) := fun y => by
    have e : labU (forL l ro ti la) y = fun x => F2 l ro ti la x y := funext fun x => hl y x
    unfold rowG
    rw [e]
    exact (cutsX hG (numsC_spec _).1 (fun r hr c hc => mx false c (mem_boxes hr hc)) y).can
  exact (cutsY hG (numsC_spec _).1 (fun r hr c hc => mx true c (mem_boxes hr hc))).form hR
theorem pat_doc {l : List Ru} (ha : l.all ruRight = true) (ro ti la : Int) : patF l ro ti la = patR l ro ti la := (form_prog ha ro ti la).uniq (form_doc ha ro ti la)
/-! ## Points -/
theorem zoom_fits {l : List Ru} {ro ti la : Int} {p : Pt} (h : zoomR l ro ti la p ≠ 0) : fits p = true := by
  by_cases ha : l.all ruRight = true
  · rw [zoomR_L ha] at h
    by_cases hn : ∀ r ∈ l, for2U ro ti la p r = false
    · exact absurd (zoomL_none hn) h
    · simp only [Classical.not_forall] at hn
      obtain ⟨r, hr, hf⟩ := hn
      have hf : for2U ro ti la p r = true := by simpa using hf
      unfold for2U at hf
      simp at hf
      exact hasB_fits hf.2
  · unfold zoomR at h
    rw [if_neg ha] at h
    exact absurd rfl h
theorem pat_right {l : List Ru} {ro ti la : Int} {o : List (Rc Int)} (h : Can.Form (F2 l ro ti la) o) : ∀ q ∈ o, rightR (boxP q) = true ∧ 1 ≤ q.z ∧ q.z ≤ 16 := fun q hq => by
  obtain ⟨h1, h2⟩ := h.corner hq
  have h3 := h.le hq
  obtain ⟨e1, hz⟩ := F2_some.1 h1
  obtain ⟨e2, _⟩ := F2_some.1 h2
  have f1 := zoom_fits (l := l) (ro := ro) (ti := ti) (la := la) (p := ⟨q.x0, q.y0⟩) (by rw [e1]; exact hz)
  have f2 := zoom_fits (l := l) (ro := ro) (ti := ti) (la := la) (p := ⟨q.x1, q.y1⟩) (by rw [e2]; exact hz)
  have hr := zoomR_range l ro ti la ⟨q.x0, q.y0⟩
  rw [e1] at hr
  unfold fits inside at f1 f2
  simp at f1 f2
  refine ⟨rightR_iff.2 ?_, by omega, hr.2⟩
  simp only [boxP]
  omega
theorem has_at {q : Rc Int} (hr : rightR (boxP q) = true) {p : Pt} : hasR (boxP q) p = true ↔ atR q p.x p.y := by
  rw [hasR_iff]
  unfold atR boxP at *
  simp only [hr, true_and]
  omega
theorem zoomP_eq {l : List Ru} {ro ti la : Int} {o : List (Rc Int)} (h : Can.Form (F2 l ro ti la) o) (p : Pt) : zoomP o p = zoomR l ro ti la p := by
  unfold zoomP
  cases hf : o.find? fun q => hasR (boxP q) p with
  | some q =>
    have hq := List.mem_of_find?_eq_some hf
    have hh := List.find?_some hf
    simp only at hh ⊢
    have := (h.iff p.x p.y q.z).2 ⟨q, hq, (has_at (pat_right h q hq).1).1 hh, rfl⟩
    exact (F2_some.1 this).1.symm
  | none =>
    have hn := List.find?_eq_none.1 hf
    simp only
    cases hz : F2 l ro ti la p.x p.y with
    | none => exact (F2_none.1 hz).symm
    | some z =>
      obtain ⟨q, hq, ha, _⟩ := (h.iff p.x p.y z).1 hz
      exact absurd ((has_at (pat_right h q hq).1).2 ha) (hn q hq)
end Go.Proofs.Ytbcfoakceloenaa
namespace Go.Proofs.Ytbcfoakceloenaa
set_option linter.all false
open Go.RowKit AM Can

/-! ## Counting points -/
def cnt (P : Int → Int → Bool) : Nat := sumN (fun y => sumN (fun x => if P x y then 1 else 0) 65536) 65536
theorem cnt_congr {P Q : Int → Int → Bool} (h : ∀ x y, P x y = Q x y) : cnt P = cnt Q := by
  have : P = Q := funext fun x => funext fun y => h x y
  rw [this]
theorem cnt_add {P Q R : Int → Int → Bool} (h : ∀ x y, ((if P x y then 1 else 0) : Nat) = (if Q x y then 1 else 0) + (if R x y then 1 else 0)) : cnt P = cnt Q + cnt R := by
  unfold cnt
  rw [← sumN_add]
  refine sumN_congr fun k _ => ?_
  rw [← sumN_add]
  exact sumN_congr fun j _ => h _ _
theorem sum2_le {n : Nat} {P Q : Int → Int → Nat} (h : ∀ x y, P x y ≤ Q x y) : sumN (fun y => sumN (fun x => P x y) n) n ≤ sumN (fun y => sumN (fun x => Q x y) n) n := sumN_le fun y _ => sumN_le fun x _ => h x y
theorem cnt_le {P Q : Int → Int → Bool} (h : ∀ x y, ((if P x y then 1 else 0) : Nat) ≤ if Q x y then 1 else 0) : cnt P ≤ cnt Q := sum2_le h
theorem sumN_nil {g : Int → Nat} {n : Nat} : sumN g n = 0 ↔ ∀ k : Nat, k < n → g k = 0 := by
  constructor
  · intro h k hk
    exact (sumN_tight (g := fun _ => 0) (h := g) (n := n) (fun _ _ => Nat.zero_le _) (by rw [h]; exact Nat.zero_le _) k hk).symm
  · intro h
    rw [sumN_congr (h := fun _ => 0) h, sumN_zero]
theorem cnt_nil {P : Int → Int → Bool} : cnt P = 0 ↔ ∀ y : Nat, y < 65536 → ∀ x : Nat, x < 65536 → P x y = false := by
  unfold cnt
  rw [sumN_nil]
  refine forall_congr' fun y => forall_congr' fun _ => ?_
  rw [sumN_nil]
  refine forall_congr' fun x => forall_congr' fun _ => ?_
  cases P x y <;> simp
def inR (r : Re) (x y : Int) : Bool := decide ((r.x0 ≤ x ∧ x ≤ r.x1) ∧ r.y0 ≤ y ∧ y ≤ r.y1)
theorem inR_iff {r : Re} {x y : Int} : inR r x y = true ↔ (r.x0 ≤ x ∧ x ≤ r.x1) ∧ r.y0 ≤ y ∧ y ≤ r.y1 := by simp [inR]
theorem cnt_box {r : Re} (hr : rightR r = true) : cnt (inR r) = areaR r := by
  have h := rightR_iff.1 hr
  unfold cnt areaR
  rw [if_pos hr]
  have e : ∀ y : Nat, y < 65536 → sumN (fun x => if inR r x y then 1 else 0) 65536 = if r.y0 ≤ (y : Int) ∧ (y : Int) ≤ r.y1 then (r.x1 - r.x0 + 1).toNat else 0 := fun y _ => by
    by_cases hy : r.y0 ≤ (y : Int) ∧ (y : Int) ≤ r.y1
    · rw [if_pos hy]
      have := sumN_in (a := r.x0) (b := r.x1) (c := 1) (n := 65536) (by omega) (by omega) (by omega)
      rw [Nat.mul_one] at this
      rw [← this]
      refine sumN_congr fun x _ => ?_
      simp [inR, hy]
    · rw [if_neg hy]
      rw [sumN_congr (h := fun _ => 0) fun x _ => ?_, sumN_zero]
      simp only [inR]
      simp
      intro _ _ h3
      omega
  rw [sumN_congr (h := fun y => if r.y0 ≤ y ∧ y ≤ r.y1 then (r.x1 - r.x0 + 1).toNat else 0) e, sumN_in (by omega) (by omega) (by omega), ← Int.toNat_mul (by omega) (by omega), Int.mul_comm]
theorem in_meet {a b : Re} {x y : Int} : inR (meetB a b) x y = (inR a x y && inR b x y) := by
  rw [Bool.eq_iff_iff, Bool.and_eq_true, inR_iff, inR_iff, inR_iff]
  simp only [meetB]
  omega
theorem meets_of {a b : Re} (ha : rightR a = true) (hb : rightR b = true) {x y : Int} (h1 : inR a x y = true) (h2 : inR b x y = true) : meetsR a b = true := by
  have h1 := inR_iff.1 h1
  have h2 := inR_iff.1 h2
  simp only [meetsR, ha, hb, Bool.true_and, decide_eq_true_iff]
  omega
theorem meets_pt {a b : Re} (h : meetsR a b = true) : ∃ x y, inR a x y = true ∧ inR b x y = true := by
  have h1 := h
  simp only [meetsR, Bool.and_eq_true, decide_eq_true_iff] at h1
  obtain ⟨⟨ha, hb⟩, h2⟩ := h1
  have ha := rightR_iff.1 ha
  have hb := rightR_iff.1 hb
  refine ⟨max a.x0 b.x0, max a.y0 b.y0, inR_iff.2 ?_, inR_iff.2 ?_⟩ <;> omega
def unc (r : Re) (qs : List (Rc Int)) (x y : Int) : Bool := inR r x y && !(qs.any fun q => inR (boxP q) x y)
theorem unc_step {r : Re} (hr : rightR r = true) {qs : List (Rc Int)} {q : Rc Int} (hq : rightR (boxP q) = true) (hap : ∀ p ∈ qs, p.x1 < q.x0 ∨ p.y1 < q.y0) :
    cnt (unc r qs) = cnt (unc r (qs ++ [q])) + (if meetsR (boxP q) r then areaR (meetB (boxP q) r) else 0) := by
  have h1 : cnt (unc r qs) = cnt (unc r (qs ++ [q])) + cnt (fun x y => inR (boxP q) x y && inR r x y) := cnt_add fun x y => by
    unfold unc
    cases e1 : inR r x y with
    | false => simp
    | true =>
      cases e2 : inR (boxP q) x y with
      | false => simp [e2]
      | true =>
        have hno : (qs.any fun q => inR (boxP q) x y) = false := by
          rw [Bool.eq_false_iff]
          intro e
          obtain ⟨p, hp, hpi⟩ := List.any_eq_true.1 e
          have h3 := inR_iff.1 hpi
          have h4 := inR_iff.1 e2
          have := hap p hp
          simp only [boxP] at h3 h4
          omega
        simp [e2, hno]
  have h2 : cnt (fun x y => inR (boxP q) x y && inR r x y) = if meetsR (boxP q) r then areaR (meetB (boxP q) r) else 0 := by
    cases hm : meetsR (boxP q) r with
    | true =>
      rw [if_pos rfl, ← cnt_box ((meets_right hq hr).trans hm)]
      exact cnt_congr fun x y => in_meet.symm
    | false =>
      rw [if_neg (by decide), cnt_nil]
      intro y _ x _
      rw [Bool.eq_false_iff]
      intro e
      rw [Bool.and_eq_true] at e
      rw [meets_of hq hr e.1 e.2] at hm
      cases hm
  rw [h1, h2]
theorem unc_le (r : Re) (hr : rightR r = true) (qs : List (Rc Int)) : cnt (unc r qs) ≤ 4294967296 := by
  have h1 : cnt (unc r qs) ≤ cnt (inR r) := cnt_le fun x y => by
    unfold unc
    cases inR r x y <;> cases (qs.any fun q => inR (boxP q) x y) <;> simp
  rw [cnt_box hr] at h1
  have := area_le r
  omega
theorem of_left {r : Re} (hr : rightR r = true) : ∀ (qs done : List (Rc Int)) (z : Int), (∀ q ∈ qs, rightR (boxP q) = true) → (done ++ qs).Pairwise (fun p q => p.x1 < q.x0 ∨ p.y1 < q.y0) →
    (qs.foldl (ofS r) ((cnt (unc r done) : Nat), z)).1 = (cnt (unc r (done ++ qs)) : Nat)
  | [], done, z, _, _ => by simp
  | q :: qs, done, z, hq, hp => by
    have hst := unc_step hr (qs := done) (hq q (by simp)) (fun p hpm => (List.pairwise_append.1 hp).2.2 p hpm q (by simp))
    have e : done ++ q :: qs = (done ++ [q]) ++ qs := by simp
    have ih := fun z => of_left hr qs (done ++ [q]) z (fun p hpm => hq p (by simp [hpm])) (by rw [← e]; exact hp)
    have hle := unc_le r hr (done ++ [q])
    have hle2 := unc_le r hr done
    rw [List.foldl_cons, e]
    unfold ofS
    cases hm : meetsR (boxP q) r with
    | true =>
      rw [hm, if_pos rfl] at hst
      rw [if_pos rfl]
      simp only
      have w : IntKind.u64.wrap (((cnt (unc r done) : Nat) : Int) - (areaR (meetB (boxP q) r) : Nat)) = ((cnt (unc r (done ++ [q])) : Nat) : Int) := by
        rw [hst]
        have : (((cnt (unc r (done ++ [q])) + areaR (meetB (boxP q) r) : Nat) : Int) - (areaR (meetB (boxP q) r) : Nat)) = ((cnt (unc r (done ++ [q])) : Nat) : Int) := by omega
        rw [this]
        rw [wrap_u64] <;> omega
      rw [w]
      exact ih _
    | false =>
      rw [hm, if_neg (by decide), Nat.add_zero] at hst
      rw [if_neg (by decide), hst]
      exact ih _
theorem of_least {r : Re} : ∀ (qs : List (Rc Int)) (s : Int × Int), ((qs.foldl (ofS r) s).2 ≤ s.2 ∧ ∀ q ∈ qs, meetsR (boxP q) r = true → (qs.foldl (ofS r) s).2 ≤ q.z) ∧ ((qs.foldl (ofS r) s).2 = s.2 ∨ ∃ q ∈ qs, meetsR (boxP q) r = true ∧ (qs.foldl (ofS r) s).2 = q.z)
  | [], s => by simp
  | q :: qs, s => by
    obtain ⟨⟨h1, h2⟩, h3⟩ := of_least qs (ofS r s q)
    rw [List.foldl_cons]
    cases hm : meetsR (boxP q) r with
    | false =>
      have e : ofS r s q = s := by simp [ofS, hm]
      rw [e] at h1 h2 h3 ⊢
      refine ⟨⟨h1, fun p hp hpm => ?_⟩, ?_⟩
      · rcases List.mem_cons.1 hp with rfl | hp
        · rw [hm] at hpm; cases hpm
        · exact h2 p hp hpm
      · rcases h3 with h3 | ⟨p, hp, h4⟩
        · exact .inl h3
        · exact .inr ⟨p, by simp [hp], h4⟩
    | true =>
      have e : (ofS r s q).2 = if q.z < s.2 then q.z else s.2 := by simp [ofS, hm]
      rw [e] at h1 h3
      generalize (qs.foldl (ofS r) (ofS r s q)).2 = m at *
      refine ⟨⟨by split at h1 <;> omega, fun p hp hpm => ?_⟩, ?_⟩
      · rcases List.mem_cons.1 hp with rfl | hp
        · split at h1 <;> omega
        · exact h2 p hp hpm
      · rcases h3 with h3 | ⟨p, hp, h4⟩
        · split at h3
          · exact .inr ⟨q, by simp, hm, h3⟩
          · exact .inl h3
        · exact .inr ⟨p, by simp [hp], h4⟩
/-! ## The least of the points -/
def IsOf (l : List Ru) (ro ti la : Int) (r : Re) (z : Int) : Prop := (∀ x y, inR r x y = true → z ≤ zoomR l ro ti la ⟨x, y⟩) ∧ ∃ x y, inR r x y = true ∧ zoomR l ro ti la ⟨x, y⟩ = z
theorem IsOf.uniq {l : List Ru} {ro ti la : Int} {r : Re} {z z' : Int} (h : IsOf l ro ti la r z) (k : IsOf l ro ti la r z') : z = z' := by
  obtain ⟨h1, x, y, h2, h3⟩ := h
  obtain ⟨k1, x', y', k2, k3⟩ := k
  have := h1 x' y' k2
  have := k1 x y h2
  omega
theorem ofP_is {l : List Ru} {ro ti la : Int} {o : List (Rc Int)} (h : Can.Form (F2 l ro ti la) o) {r : Re} (hr : rightR r = true) : IsOf l ro ti la r (ofP o r) := by
  have hri := rightR_iff.1 hr
  have hpr := pat_right h
  have hL := of_left hr o [] 16 (fun q hq => (hpr q hq).1) h.apart
  have e0 : unc r [] = inR r := funext fun x => funext fun y => by simp [unc]
  rw [e0, cnt_box hr, List.nil_append] at hL
  obtain ⟨⟨hM1, hM2⟩, hM3⟩ := of_least (r := r) o ((areaR r : Nat), 16)
  unfold ofP
  rw [hL]
  simp only at hM1 hM3
  generalize (o.foldl (ofS r) ((areaR r : Nat), 16)).2 = m at *
  have hcov : ∀ x y q, q ∈ o → inR (boxP q) x y = true → zoomR l ro ti la ⟨x, y⟩ = q.z := fun x y q hq hi => by
    have hi := inR_iff.1 hi
    simp only [boxP] at hi
    exact (F2_some.1 ((h.iff x y q.z).2 ⟨q, hq, ⟨hi.1.1, hi.1.2, hi.2.1, hi.2.2⟩, rfl⟩)).1
  split
  · rename_i hp
    have hne : cnt (unc r o) ≠ 0 := by omega
    refine ⟨fun x y _ => (zoomR_range l ro ti la ⟨x, y⟩).1, ?_⟩
    apply Classical.byContradiction
    intro hno
    apply hne
    rw [cnt_nil]
    intro y hy x hx
    rw [Bool.eq_false_iff]
    intro e
    unfold unc at e
    rw [Bool.and_eq_true] at e
    apply hno
    refine ⟨x, y, e.1, ?_⟩
    refine F2_none.1 ?_
    cases hz : F2 l ro ti la x y with
    | none => rfl
    | some z =>
      obtain ⟨q, hq, ha, _⟩ := (h.iff _ _ z).1 hz
      have : (o.any fun q => inR (boxP q) x y) = true := List.any_eq_true.2 ⟨q, hq, inR_iff.2 ⟨⟨ha.1, ha.2.1⟩, ha.2.2.1, ha.2.2.2⟩⟩
      rw [this] at e
      simp at e
  · rename_i hp
    have hc0 : cnt (unc r o) = 0 := by omega
    have hall : ∀ x y, inR r x y = true → ∃ q ∈ o, inR (boxP q) x y = true := fun x y hi => by
      have hi' := inR_iff.1 hi
      have := cnt_nil.1 hc0 y.toNat (by omega) x.toNat (by omega)
      rw [Int.toNat_of_nonneg (by omega), Int.toNat_of_nonneg (by omega)] at this
      unfold unc at this
      rw [hi] at this
      simp at this
      exact this
    refine ⟨fun x y hi => ?_, ?_⟩
    · obtain ⟨q, hq, hqi⟩ := hall x y hi
      rw [hcov x y q hq hqi]
      exact hM2 q hq (meets_of (hpr q hq).1 hr hqi hi)
    · rcases hM3 with hM3 | ⟨q, hq, hqm, hM3⟩
      · have hi : inR r r.x0 r.y0 = true := inR_iff.2 (by omega)
        obtain ⟨q, hq, hqi⟩ := hall _ _ hi
        refine ⟨_, _, hi, ?_⟩
        rw [hcov _ _ q hq hqi]
        have h1 := hM2 q hq (meets_of (hpr q hq).1 hr hqi hi)
        have h2 := (hpr q hq).2
        omega
      · obtain ⟨x, y, h1, h2⟩ := meets_pt hqm
        exact ⟨x, y, h2, by rw [hcov x y q hq h1, hM3]⟩
end Go.Proofs.Ytbcfoakceloenaa
namespace Go.Proofs.Ytbcfoakceloenaa
set_option linter.all false
open Go.RowKit AM Can

theorem ofIn_spec {l : List Ru} {ro ti la : Int} {r : Re} {x : Int} : ∀ (ys : List Int) (z : Int), (ofIn l ro ti la r ys z x ≤ z ∧ ∀ y ∈ ys, hasR r ⟨x, y⟩ = true → ofIn l ro ti la r ys z x ≤ zoomR l ro ti la ⟨x, y⟩) ∧ (ofIn l ro ti la r ys z x = z ∨ ∃ y ∈ ys, hasR r ⟨x, y⟩ = true ∧ ofIn l ro ti la r ys z x = zoomR l ro ti la ⟨x, y⟩)
  | [], z => by simp [ofIn]
  | y :: ys, z => by
    obtain ⟨⟨h1, h2⟩, h3⟩ := ofIn_spec (x := x) ys (ofP1 l ro ti la r z ⟨x, y⟩)
    have e : ofIn l ro ti la r (y :: ys) z x = ofIn l ro ti la r ys (ofP1 l ro ti la r z ⟨x, y⟩) x := rfl
    rw [e]
    generalize ofIn l ro ti la r ys (ofP1 l ro ti la r z ⟨x, y⟩) x = m at *
    unfold ofP1 at h1 h3
    cases hr : hasR r ⟨x, y⟩ with
    | false =>
      rw [hr] at h1 h3
      simp only [Bool.false_and, Bool.false_eq_true, if_false] at h1 h3
      refine ⟨⟨h1, fun y' hy hh => ?_⟩, ?_⟩
      · rcases List.mem_cons.1 hy with rfl | hy
        · rw [hr] at hh; cases hh
        · exact h2 y' hy hh
      · rcases h3 with h3 | ⟨y', hy, h4⟩
        · exact .inl h3
        · exact .inr ⟨y', by simp [hy], h4⟩
    | true =>
      rw [hr] at h1 h3
      simp only [Bool.true_and, decide_eq_true_iff] at h1 h3
      refine ⟨⟨by split at h1 <;> omega, fun y' hy hh => ?_⟩, ?_⟩
      · rcases List.mem_cons.1 hy with rfl | hy
        · split at h1 <;> omega
        · exact h2 y' hy hh
      · rcases h3 with h3 | ⟨y', hy, h4⟩
        · split at h3
          · exact .inr ⟨y, by simp, hr, h3⟩
          · exact .inl h3
        · exact .inr ⟨y', by simp [hy], h4⟩
theorem ofOut_spec {l : List Ru} {ro ti la : Int} {r : Re} {ys : List Int} : ∀ (xs : List Int) (z : Int), (xs.foldl (ofIn l ro ti la r ys) z ≤ z ∧ ∀ x ∈ xs, ∀ y ∈ ys, hasR r ⟨x, y⟩ = true → xs.foldl (ofIn l ro ti la r ys) z ≤ zoomR l ro ti la ⟨x, y⟩) ∧
    (xs.foldl (ofIn l ro ti la r ys) z = z ∨ ∃ x ∈ xs, ∃ y ∈ ys, hasR r ⟨x, y⟩ = true ∧ xs.foldl (ofIn l ro ti la r ys) z = zoomR l ro ti la ⟨x, y⟩)
  | [], z => by simp
  | x :: xs, z => by
    obtain ⟨⟨h1, h2⟩, h3⟩ := ofOut_spec (ys := ys) xs (ofIn l ro ti la r ys z x)
    obtain ⟨⟨k1, k2⟩, k3⟩ := ofIn_spec (l := l) (ro := ro) (ti := ti) (la := la) (r := r) (x := x) ys z
    rw [List.foldl_cons]
    generalize xs.foldl (ofIn l ro ti la r ys) (ofIn l ro ti la r ys z x) = m at *
    generalize ofIn l ro ti la r ys z x = n at *
    refine ⟨⟨by omega, fun x' hx y hy hh => ?_⟩, ?_⟩
    · rcases List.mem_cons.1 hx with rfl | hx
      · have := k2 y hy hh
        omega
      · exact h2 x' hx y hy hh
    · rcases h3 with h3 | ⟨x', hx, y, hy, hh, h4⟩
      · rcases k3 with k3 | ⟨y, hy, hh, k4⟩
        · exact .inl (by omega)
        · exact .inr ⟨x, by simp, y, hy, hh, by omega⟩
      · exact .inr ⟨x', by simp [hx], y, hy, hh, h4⟩
theorem floor_of : ∀ {xs : List Int} {x : Int}, (∃ c ∈ xs, c ≤ x) → ∃ g ∈ xs, g ≤ x ∧ ∀ c ∈ xs, c ≤ x ↔ c ≤ g
  | [], x, h => by
    obtain ⟨c, hc, _⟩ := h
    cases hc
  | c :: xs, x, h => by
    by_cases hr : ∃ d ∈ xs, d ≤ x
    · obtain ⟨g, hg, h1, h2⟩ := floor_of hr
      by_cases hc : c ≤ x ∧ g < c
      · refine ⟨c, by simp, hc.1, fun d hd => ?_⟩
        rcases List.mem_cons.1 hd with rfl | hd
        · omega
        · have := h2 d hd
          omega
      · refine ⟨g, by simp [hg], h1, fun d hd => ?_⟩
        rcases List.mem_cons.1 hd with rfl | hd
        · omega
        · exact h2 d hd
    · obtain ⟨d, hd, hdx⟩ := h
      have hdc : d = c := by
        rcases List.mem_cons.1 hd with e | hd
        · exact e
        · exact absurd ⟨d, hd, hdx⟩ hr
      subst hdc
      refine ⟨d, by simp, hdx, fun e he => ?_⟩
      rcases List.mem_cons.1 he with rfl | he
      · omega
      · constructor
        · intro h; exact absurd ⟨e, he, h⟩ hr
        · intro h; omega
theorem zoom_of_F2 {l : List Ru} {ro ti la x y x' y' : Int} (h : F2 l ro ti la x y = F2 l ro ti la x' y') : zoomR l ro ti la ⟨x, y⟩ = zoomR l ro ti la ⟨x', y'⟩ := by
  cases e : F2 l ro ti la x y with
  | none =>
    rw [F2_none.1 e, F2_none.1 (h.symm.trans e)]
  | some z =>
    rw [(F2_some.1 e).1, (F2_some.1 (h.symm.trans e)).1]
theorem ofR_is {l : List Ru} (ha : l.all ruRight = true) {ro ti la : Int} {r : Re} (hr : rightR r = true) : IsOf l ro ti la r (ofRD l ro ti la r) := by
  have hri := rightR_iff.1 hr
  have hG := F2_doc ha ro ti la
  have mx : ∀ d, ∀ c ∈ boxesU l ++ [r], lo d c ∈ edgesR (boxesU l ++ [r]) d ∧ hi d c + 1 ∈ edgesR (boxesU l ++ [r]) d := fun d c hc => ⟨((edgesR_spec _ d).2 _).2 (.inr (.inr ⟨c, hc, .inl rfl⟩)), ((edgesR_spec _ d).2 _).2 (.inr (.inr ⟨c, hc, .inr rfl⟩))⟩
  have mb : ∀ d, ∀ u ∈ l, ∀ c ∈ u.boxes, lo d c ∈ edgesR (boxesU l ++ [r]) d ∧ hi d c + 1 ∈ edgesR (boxesU l ++ [r]) d := fun d u hu c hc => mx d c (by simp [mem_boxes hu hc])
  have hx := fun y => cutsX hG (edgesR_spec (boxesU l ++ [r]) false).1 (mb false) y
  have hy := cutsY hG (edgesR_spec (boxesU l ++ [r]) true).1 (mb true)
  have rx : r.x0 ∈ edgesR (boxesU l ++ [r]) false := (mx false r (by simp)).1
  have ry : r.y0 ∈ edgesR (boxesU l ++ [r]) true := (mx true r (by simp)).1
  unfold ofRD
  generalize edgesR (boxesU l ++ [r]) false = xs at *
  generalize edgesR (boxesU l ++ [r]) true = ys at *
  obtain ⟨⟨h1, h2⟩, h3⟩ := ofOut_spec (l := l) (ro := ro) (ti := ti) (la := la) (r := r) (ys := ys) xs 16
  generalize xs.foldl (ofIn l ro ti la r ys) 16 = m at *
  have hh : ∀ x y, hasR r ⟨x, y⟩ = true ↔ inR r x y = true := fun x y => by
    rw [hasR_iff, inR_iff]
    simp [hr]
  refine ⟨fun x y hi => ?_, ?_⟩
  · have hi := inR_iff.1 hi
    obtain ⟨gx, m1, m2, m3⟩ := floor_of (xs := xs) (x := x) ⟨_, rx, hi.1.1⟩
    obtain ⟨gy, n1, n2, n3⟩ := floor_of (xs := ys) (x := y) ⟨_, ry, hi.2.1⟩
    have q1 := (m3 _ rx).1 hi.1.1
    have q2 := (n3 _ ry).1 hi.2.1
    have e1 : F2 l ro ti la x y = F2 l ro ti la gx y := (hx y).same x gx m3
    have e2 : F2 l ro ti la gx y = F2 l ro ti la gx gy := hy.same gx y gy n3
    rw [zoom_of_F2 (e1.trans e2)]
    exact h2 gx m1 gy n1 ((hh _ _).2 (inR_iff.2 (by omega)))
  · rcases h3 with h3 | ⟨x, hx, y, hy, hxy, h4⟩
    · have hc : inR r r.x0 r.y0 = true := inR_iff.2 (by omega)
      have h5 := h2 _ rx _ ry ((hh _ _).2 hc)
      have h6 := zoomR_range l ro ti la ⟨r.x0, r.y0⟩
      exact ⟨_, _, hc, by omega⟩
    · exact ⟨x, y, (hh _ _).1 hxy, h4.symm⟩
theorem of_doc {l : List Ru} (ha : l.all ruRight = true) {ro ti la : Int} {r : Re} (hr : rightR r = true) : ofP (patF l ro ti la) r = ofRD l ro ti la r := (ofP_is (form_prog ha ro ti la) hr).uniq (ofR_is ha hr)
/-! ## Rectangles within rectangles -/
theorem of_within {l : List Ru} (ha : l.all ruRight = true) {ro ti la : Int} {r s : Re} (h : inB s r = true) : ofP (patF l ro ti la) r ≤ ofP (patF l ro ti la) s := by
  simp only [inB, Bool.and_eq_true, decide_eq_true_iff] at h
  obtain ⟨⟨hs, hr⟩, hi⟩ := h
  obtain ⟨h1, _⟩ := ofP_is (form_prog ha ro ti la) hr
  obtain ⟨_, x, y, h3, h4⟩ := ofP_is (form_prog ha ro ti la) hs
  rw [← h4]
  have h3 := inR_iff.1 h3
  exact h1 x y (inR_iff.2 (by omega))
theorem of_point {l : List Ru} (ha : l.all ruRight = true) {ro ti la : Int} {r s : Re} (h : inB s r = true) : ofP (patF l ro ti la) r ≤ zoomR l ro ti la ⟨s.x0, s.y1⟩ := by
  simp only [inB, Bool.and_eq_true, decide_eq_true_iff] at h
  obtain ⟨⟨hs, hr⟩, hi⟩ := h
  obtain ⟨h1, _⟩ := ofP_is (form_prog ha ro ti la) hr
  have hs := rightR_iff.1 hs
  exact h1 _ _ (inR_iff.2 (by omega))
theorem of_dot {l : List Ru} (ha : l.all ruRight = true) {ro ti la x y : Int} (h : rightR ⟨x, y, x, y⟩ = true) : ofP (patF l ro ti la) ⟨x, y, x, y⟩ = zoomR l ro ti la ⟨x, y⟩ := by
  obtain ⟨_, x', y', h3, h4⟩ := ofP_is (form_prog ha ro ti la) h
  have h3 := inR_iff.1 h3
  simp only at h3
  obtain rfl : x' = x := by omega
  obtain rfl : y' = y := by omega
  exact h4.symm
/-! ## Patches apart -/
theorem pat_apart {l : List Ru} {ro ti la : Int} {o : List (Rc Int)} (h : Can.Form (F2 l ro ti la) o) {i k : Nat} (hi : i < o.length) (hk : k < i) : meetsR (boxP o[i]) (boxP o[k]) = false := by
  have := (List.pairwise_iff_getElem.1 h.apart) k i (by omega) hi hk
  rw [Bool.eq_false_iff]
  intro e
  simp only [meetsR, Bool.and_eq_true, decide_eq_true_iff] at e
  have e2 := e.2
  simp only [boxP] at e2
  omega
/-! ## Which zooms there are -/
theorem rises_uniq : ∀ {xs ys : List Int}, xs.Pairwise (· < ·) → ys.Pairwise (· < ·) → (∀ z, z ∈ xs ↔ z ∈ ys) → xs = ys
  | [], [], _, _, _ => rfl
  | [], y :: ys, _, _, h => by have := (h y).2 (by simp); cases this
  | x :: xs, [], _, _, h => by have := (h x).1 (by simp); cases this
  | x :: xs, y :: ys, hx, hy, h => by
    obtain ⟨h1, h2⟩ := List.pairwise_cons.1 hx
    obtain ⟨k1, k2⟩ := List.pairwise_cons.1 hy
    have e : x = y := by
      rcases List.mem_cons.1 ((h x).1 (by simp)) with e | e
      · exact e
      · rcases List.mem_cons.1 ((h y).2 (by simp)) with f | f
        · exact f.symm
        · have := k1 x e
          have := h1 y f
          omega
    subst e
    rw [rises_uniq h2 k2 fun z => ?_]
    constructor
    · intro hz
      have := h1 z hz
      rcases List.mem_cons.1 ((h z).1 (by simp [hz])) with e | e
      · omega
      · exact e
    · intro hz
      have := k1 z hz
      rcases List.mem_cons.1 ((h z).2 (by simp [hz])) with e | e
      · omega
      · exact e
theorem levIn_spec : ∀ (qs : List (Rc Int)) (o : List Int), o.Pairwise (· < ·) → (levIn o qs).Pairwise (· < ·) ∧ ∀ z, z ∈ levIn o qs ↔ z ∈ o ∨ ∃ q ∈ qs, q.z = z
  | [], o, h => ⟨h, by simp [levIn]⟩
  | q :: qs, o, h => by
    obtain ⟨h1, h2⟩ := putI_spec (n := q.z) h
    obtain ⟨h3, h4⟩ := levIn_spec qs _ h1
    have e : levIn o (q :: qs) = levIn (putI o q.z) qs := rfl
    rw [e]
    refine ⟨h3, fun z => ?_⟩
    rw [h4, h2]
    constructor
    · rintro ((h | rfl) | ⟨p, hp, rfl⟩)
      · exact .inl h
      · exact .inr ⟨q, by simp, rfl⟩
      · exact .inr ⟨p, by simp [hp], rfl⟩
    · rintro (h | ⟨p, hp, rfl⟩)
      · exact .inl (.inl h)
      · rcases List.mem_cons.1 hp with rfl | hp
        · exact .inl (.inr rfl)
        · exact .inr ⟨p, hp, rfl⟩
theorem levR_spec (l : List Ru) (ro ti : Int) : ∀ n, (levR l ro ti n).Pairwise (· < ·) ∧ ∀ z, z ∈ levR l ro ti n ↔ ∃ la : Nat, la < n ∧ ∃ q ∈ patR l ro ti la, q.z = z
  | 0 => by simp [levR]
  | n + 1 => by
    obtain ⟨h1, h2⟩ := levR_spec l ro ti n
    obtain ⟨h3, h4⟩ := levIn_spec (patR l ro ti n) _ h1
    rw [levR_succ]
    refine ⟨h3, fun z => ?_⟩
    rw [h4, h2]
    constructor
    · rintro (⟨la, hl, h⟩ | h)
      · exact ⟨la, by omega, h⟩
      · exact ⟨n, by omega, h⟩
    · rintro ⟨la, hl, h⟩
      by_cases e : la = n
      · subst e; exact .inr h
      · exact .inl ⟨la, by omega, h⟩
theorem lev_doc {l : List Ru} (ha : l.all ruRight = true) (ro ti : Int) : numsC (levG l ro ti 8) = levR l ro ti 8 := by
  refine rises_uniq (numsC_spec _).1 (levR_spec l ro ti 8).1 fun z => ?_
  rw [(numsC_spec _).2, (levR_spec l ro ti 8).2]
  unfold levG
  rw [List.mem_flatMap]
  constructor
  · rintro ⟨la, hl, h⟩
    obtain ⟨q, hq, rfl⟩ := List.mem_map.1 h
    rw [pat_doc ha] at hq
    exact ⟨la, List.mem_range.1 hl, q, hq, rfl⟩
  · rintro ⟨la, hl, q, hq, rfl⟩
    rw [← pat_doc ha] at hq
    exact ⟨la, List.mem_range.2 hl, List.mem_map.2 ⟨q, hq, rfl⟩⟩
/-! ## Rules in another order -/
theorem zoomS_comm {q : Ru → Bool} (s : Int × Int) (a b : Ru) : zoomS q (zoomS q s a) b = zoomS q (zoomS q s b) a := by
  unfold zoomS
  cases q a <;> cases q b <;> simp
  by_cases ha : a.kind = 4 <;> by_cases hb : b.kind = 4 <;> simp [ha, hb] <;> omega
theorem zoomL_rev {q : Ru → Bool} (l : List Ru) : zoomL q l.reverse = zoomL q l := by
  unfold zoomL
  have h : l.reverse.foldl (zoomS q) (0, 16) = l.foldl (zoomS q) (0, 16) := by
    refine List.Perm.foldl_eq' (List.reverse_perm l) ?_ _
    intro x _ y _ z
    exact zoomS_comm z x y
  rw [h]
theorem pat_rev {l : List Ru} (ha : l.all ruRight = true) (ro ti la : Int) : patF l.reverse ro ti la = patF l ro ti la := by
  have ha' : l.reverse.all ruRight = true := by rw [List.all_reverse]; exact ha
  refine (form_prog ha' ro ti la).uniq ?_
  have e : F2 l.reverse ro ti la = F2 l ro ti la := funext fun x => funext fun y => by
    unfold F2
    rw [zoomR_L ha', zoomR_L ha, zoomL_rev]
  rw [e]
  exact form_prog ha ro ti la
/-! ## For no one -/
theorem forU_no {r : Ru} {ro ti la : Int} (h : numsU ro ti la = false) : forU r ro ti la = false := by
  simp [forU, h]
theorem zoomR_no {l : List Ru} {ro ti la : Int} (h : numsU ro ti la = false) (p : Pt) : zoomR l ro ti la p = 0 := by
  by_cases ha : l.all ruRight = true
  · rw [zoomR_L ha]
    exact zoomL_none fun r _ => by simp [for2U, forU_no h]
  · unfold zoomR
    rw [if_neg ha]
end Go.Proofs.Ytbcfoakceloenaa
