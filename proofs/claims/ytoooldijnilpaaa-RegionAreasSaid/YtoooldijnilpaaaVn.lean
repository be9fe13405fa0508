/- Regions: plain lemmas for the laws of unions, areas and covering. No program in sight. -/
import Derived.Test.YtoooldijnilpaaaVp
namespace Go.Proofs.Ytoooldijnilpaaa
set_option linter.all false
open Go.RowKit AM Can

theorem unL_ok {l : List Re} (h : wrongR l = 0) : unL l = (formL orB l []).map toRe := by unfold unL; rw [if_pos h]
theorem unL_no {l : List Re} (h : wrongR l ≠ 0) : unL l = [] := by unfold unL; rw [if_neg h]
theorem orB_nil (p : Bool) : orB p false = p := by cases p <;> rfl
theorem hasL_nil (x y : Int) : hasL [] x y = false := rfl
theorem lab_or (l : List Re) (x y : Int) : Lab orB l [] x y = if hasL l x y = true then some () else none := by
  show (if orB (hasL l x y) (hasL [] x y) = true then some () else none) = _
  rw [hasL_nil, orB_nil]
theorem lab_congr {l l' : List Re} (h : ∀ x y, hasL l x y = hasL l' x y) : Lab orB l [] = Lab orB l' [] := by
  funext x y
  rw [lab_or, lab_or, h]
theorem form_congr {l l' : List Re} (h : ∀ x y, hasL l x y = hasL l' x y) : formL orB l [] = formL orB l' [] := by
  have h1 := formL_form (cf := orB) rfl l []
  rw [lab_congr h] at h1
  exact h1.uniq (formL_form rfl l' [])
theorem hasL_mem {l l' : List Re} (h : ∀ r, r ∈ l ↔ r ∈ l') (x y : Int) : hasL l x y = hasL l' x y := by
  rw [Bool.eq_iff_iff, hasL_iff, hasL_iff]
  constructor
  · rintro ⟨r, hr, k⟩; exact ⟨r, (h r).1 hr, k⟩
  · rintro ⟨r, hr, k⟩; exact ⟨r, (h r).2 hr, k⟩
theorem wrongR_mem {l l' : List Re} (h : ∀ r, r ∈ l ↔ r ∈ l') (hl : l.length ≤ 256) (hl' : l'.length ≤ 256) : wrongR l = wrongR l' := by
  have e1 : wrongR l = if l.all rightR then 0 else 1 := by unfold wrongR; rw [if_neg (by omega)]
  have e2 : wrongR l' = if l'.all rightR then 0 else 1 := by unfold wrongR; rw [if_neg (by omega)]
  rw [e1, e2]
  have : l.all rightR = l'.all rightR := by
    rw [Bool.eq_iff_iff, List.all_eq_true, List.all_eq_true]
    constructor
    · intro k r hr; exact k r ((h r).2 hr)
    · intro k r hr; exact k r ((h r).1 hr)
  rw [this]
theorem unL_mem {l l' : List Re} (h : ∀ r, r ∈ l ↔ r ∈ l') (hl : l.length ≤ 256) (hl' : l'.length ≤ 256) : unL l = unL l' := by
  unfold unL
  rw [wrongR_mem h hl hl', form_congr (hasL_mem h)]
/-! ## A union of a union -/
theorem unL_right (l : List Re) : ∀ r ∈ unL l, rightR r = true := by
  unfold unL
  split
  · exact form_right rfl (formL_form rfl l [])
  · simp
theorem unL_has {l : List Re} (h : wrongR l = 0) (x y : Int) : hasL (unL l) x y = hasL l x y := by
  rw [unL_ok h, form_has (cf := orB) rfl (formL_form rfl l []), hasL_nil, orB_nil]
theorem unL_un {l : List Re} (h : wrongR l = 0) (hl : (unL l).length ≤ 256) : wrongR (unL l) = 0 ∧ unL (unL l) = unL l := by
  have hw : wrongR (unL l) = 0 := wrongR_ok.2 ⟨hl, unL_right l⟩
  refine ⟨hw, ?_⟩
  rw [unL_ok hw, form_congr (unL_has h), ← unL_ok h]
theorem unL_apart (l : List Re) : (unL l).Pairwise fun p q => meetsR q p = false := by
  unfold unL
  split
  · have := (formL_form (cf := orB) rfl l []).apart
    rw [List.pairwise_map]
    refine this.imp fun {p q} h => ?_
    unfold meetsR toRe
    rw [Bool.and_eq_false_iff]
    right
    rw [decide_eq_false_iff_not]
    simp only
    omega
  · simp
/-! ## Areas -/
theorem unL_total {l : List Re} (h : wrongR l = 0) : areaL (unL l) = total one1 (Lab orB l []) 65536 := by
  rw [unL_ok h]
  exact form_area (cf := orB) rfl (formL_form rfl l [])
theorem total_congr {F G : Int → Int → Option Unit} {n : Nat} (h : ∀ x y, F x y = G x y) : total one1 F n = total one1 G n := by
  have : F = G := by funext x y; exact h x y
  rw [this]
theorem total_four {F G U M : Int → Int → Option Unit} {n : Nat} (h : ∀ x y, wgt one1 (F x y) + wgt one1 (G x y) = wgt one1 (U x y) + wgt one1 (M x y)) : total one1 F n + total one1 G n = total one1 U n + total one1 M n := by
  unfold total
  rw [← sumN_add, ← sumN_add]
  refine sumN_congr fun y _ => ?_
  rw [← sumN_add, ← sumN_add]
  exact sumN_congr fun x _ => h _ _
theorem total_tight {F G : Int → Int → Option Unit} {n : Nat} (hle : ∀ x y, wgt one1 (F x y) ≤ wgt one1 (G x y)) (h : total one1 G n ≤ total one1 F n) : ∀ y : Nat, y < n → ∀ x : Nat, x < n → wgt one1 (F x y) = wgt one1 (G x y) := by
  intro y hy x hx
  have h1 := sumN_tight (g := fun y => sumN (fun x => wgt one1 (F x y)) n) (h := fun y => sumN (fun x => wgt one1 (G x y)) n) (n := n) (fun k _ => sumN_le fun j _ => hle _ _) h y hy
  exact sumN_tight (g := fun x => wgt one1 (F x y)) (h := fun x => wgt one1 (G x y)) (n := n) (fun j _ => hle _ _) (Nat.le_of_eq h1.symm) x hx
theorem wgt_lab (cf : Bool → Bool → Bool) (a b : List Re) (x y : Int) : wgt one1 (Lab cf a b x y) = if cf (hasL a x y) (hasL b x y) = true then 1 else 0 := by
  have : Lab cf a b x y = if cf (hasL a x y) (hasL b x y) = true then some () else none := rfl
  rw [this]
  by_cases h : cf (hasL a x y) (hasL b x y) = true
  · rw [if_pos h, if_pos h]
    rfl
  · rw [if_neg h, if_neg h]
    rfl
theorem hasL_one {r : Re} (hr : rightR r = true) (x y : Int) : hasL [r] x y = true ↔ (r.x0 ≤ x ∧ x ≤ r.x1) ∧ r.y0 ≤ y ∧ y ≤ r.y1 := by
  rw [hasL_iff]
  constructor
  · rintro ⟨q, hq, _, k⟩
    simp at hq
    subst hq
    exact k
  · intro k
    exact ⟨r, by simp, hr, k⟩
theorem total_one {r : Re} (hr : rightR r = true) : total one1 (Lab orB [r] []) 65536 = areaR r := by
  have hb := rightR_iff.1 hr
  unfold areaR
  rw [if_pos hr, Int.toNat_mul (by omega) (by omega), Nat.mul_comm]
  unfold total
  rw [← sumN_in (a := r.y0) (b := r.y1) (c := (r.x1 - r.x0 + 1).toNat) (n := 65536) (by omega) (by omega) (by omega)]
  refine sumN_congr fun y _ => ?_
  by_cases hy : r.y0 ≤ (y : Int) ∧ (y : Int) ≤ r.y1
  · rw [if_pos hy]
    have := sumN_in (a := r.x0) (b := r.x1) (c := 1) (n := 65536) (by omega) (by omega) (by omega)
    rw [Nat.mul_one] at this
    rw [← this]
    refine sumN_congr fun x _ => ?_
    rw [wgt_lab, hasL_nil, orB_nil]
    have h1 := hasL_one hr x y
    by_cases hx : r.x0 ≤ (x : Int) ∧ (x : Int) ≤ r.x1
    · rw [if_pos hx, if_pos (h1.2 ⟨hx, hy⟩)]
    · rw [if_neg hx, if_neg (fun e => hx (h1.1 e).1)]
  · rw [if_neg hy]
    rw [sumN_congr (h := fun _ => 0) fun x _ => ?_, sumN_zero]
    rw [wgt_lab, hasL_nil, orB_nil]
    exact if_neg fun e => hy ((hasL_one hr x y).1 e).2
theorem wrong_one {r : Re} : wrongR [r] = 0 ↔ rightR r = true := by
  rw [wrongR_ok]
  simp
theorem both_bad {l : List Re} {r : Re} (h : wrongR l ≠ 0 ∨ rightR r = false) : coversL l r = false := by
  unfold coversL
  have : bothR [r] l ≠ 0 := fun e => by
    obtain ⟨h1, h2⟩ := bothR_ok.1 e
    rw [wrong_one] at h1
    rcases h with h | h
    · exact h h2
    · rw [h1] at h
      cases h
  rw [decide_eq_false this]
  rfl
theorem covers_iff {l : List Re} {r : Re} (hl : wrongR l = 0) (hr : rightR r = true) : coversL l r = decide (areaL ((formL andB l [r]).map toRe) = areaR r) := by
  have hb : bothR [r] l = 0 := bothR_ok.2 ⟨wrong_one.2 hr, hl⟩
  unfold coversL
  rw [decide_eq_true hb, Bool.true_and, decide_eq_decide, opL_ok hb, List.map_eq_nil_iff, (formL_form (cf := lessB) rfl [r] l).nil_iff, form_area (cf := andB) rfl (formL_form rfl l [r]), ← total_one hr]
  have hle : ∀ x y, wgt one1 (Lab andB l [r] x y) ≤ wgt one1 (Lab orB [r] [] x y) := fun x y => by
    rw [wgt_lab, wgt_lab, hasL_nil, orB_nil]
    cases hasL l x y <;> cases hasL [r] x y <;> decide
  constructor
  · intro h
    refine total_congr fun x y => ?_
    have := h x y
    unfold Lab at this
    rw [unitF_none] at this
    show (if andB (hasL l x y) (hasL [r] x y) = true then some () else none) = (if orB (hasL [r] x y) (hasL [] x y) = true then some () else none)
    rw [hasL_nil, orB_nil]
    revert this
    cases hasL l x y <;> cases hasL [r] x y <;> simp [lessB, andB]
  · intro h x y
    unfold Lab
    rw [unitF_none]
    cases hr1 : hasL [r] x y with
    | false => rfl
    | true =>
      have hin := hasL_in hr1
      have h1 := total_tight hle (Nat.le_of_eq h.symm) y.toNat (by omega) x.toNat (by omega)
      rw [show ((y.toNat : Nat) : Int) = y by omega, show ((x.toNat : Nat) : Int) = x by omega, wgt_lab, wgt_lab, hasL_nil, orB_nil, hr1] at h1
      revert h1
      cases hasL l x y <;> simp [lessB, andB]
theorem covers_self {r : Re} (hr : rightR r = true) : coversL [r] r = true := by
  have hb : bothR [r] [r] = 0 := bothR_ok.2 ⟨wrong_one.2 hr, wrong_one.2 hr⟩
  unfold coversL
  rw [decide_eq_true hb, Bool.true_and, decide_eq_true_iff, opL_ok hb, List.map_eq_nil_iff, (formL_form (cf := lessB) rfl [r] [r]).nil_iff]
  intro x y
  unfold Lab
  rw [unitF_none]
  cases hasL [r] x y <;> rfl
/-! ## Two sides together -/
theorem hasL_append (a b : List Re) (x y : Int) : hasL (a ++ b) x y = (hasL a x y || hasL b x y) := by
  unfold hasL
  rw [List.any_append]
theorem wrong_append {a b : List Re} (ha : a.length ≤ 12) (hb : b.length ≤ 12) : wrongR (a ++ b) = bothR a b := by
  have h1 : wrongR a = if a.all rightR then 0 else 1 := by unfold wrongR; rw [if_neg (by omega)]
  have h2 : wrongR b = if b.all rightR then 0 else 1 := by unfold wrongR; rw [if_neg (by omega)]
  have h3 : wrongR (a ++ b) = if (a ++ b).all rightR then 0 else 1 := by unfold wrongR; rw [if_neg (by rw [List.length_append]; omega)]
  unfold bothR
  rw [h1, h2, h3, List.all_append]
  cases a.all rightR <;> cases b.all rightR <;> decide
theorem areas_sum {a b : List Re} (ha : a.length ≤ 12) (hb : b.length ≤ 12) (h : bothR a b = 0) (hl : (opL andB a b).length ≤ 256) : areaL (unL a) + areaL (unL b) = areaL (unL (a ++ b)) + areaL (unL (opL andB a b)) := by
  obtain ⟨h1, h2⟩ := bothR_ok.1 h
  rw [unL_total h1, unL_total h2, unL_total (by rw [wrong_append ha hb, h]), unL_total (opL_wrong rfl _ _ hl)]
  refine total_four fun x y => ?_
  rw [wgt_lab, wgt_lab, wgt_lab, wgt_lab, hasL_nil, orB_nil, orB_nil, orB_nil, orB_nil, hasL_append, opL_has rfl h]
  cases hasL a x y <;> cases hasL b x y <;> decide
end Go.Proofs.Ytoooldijnilpaaa
