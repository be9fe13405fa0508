/- As many nodes as the document says: plain. -/
import Derived.Test.YtdeemchhbgomjaaIc
import Derived.Test.YtdeemchhbgomjaaHr
namespace Go.Proofs.Ytdeemchhbgomjaa
set_option linter.all false
open Go.RowKit AM

theorem insC_mem {cs : List Ce} {c x : Ce} : x ∈ insC cs c ↔ x ∈ cs ∨ x = c := by
  unfold insC
  split
  · rename_i h
    refine ⟨.inl, fun h1 => h1.elim id fun e => by rw [e]; exact h⟩
  · simp
theorem insC_nodup {cs : List Ce} {c : Ce} (h : cs.Nodup) : (insC cs c).Nodup := by
  unfold insC
  split
  · exact h
  · rename_i hn
    exact List.nodup_append.2 ⟨h, by simp, fun a ha b hb e => by
      simp at hb
      subst hb
      subst e
      exact hn ha⟩
theorem insAll_mem {x : Ce} : ∀ {ds cs : List Ce}, x ∈ insAll cs ds ↔ x ∈ cs ∨ x ∈ ds
  | [], cs => by simp [insAll]
  | d :: ds, cs => by
    have := insAll_mem (x := x) (ds := ds) (cs := insC cs d)
    unfold insAll at this ⊢
    rw [List.foldl_cons, this, insC_mem, List.mem_cons, or_assoc]
theorem insAll_nodup : ∀ {ds cs : List Ce}, cs.Nodup → (insAll cs ds).Nodup
  | [], cs, h => h
  | d :: ds, cs, h => insAll_nodup (ds := ds) (insC_nodup h)
theorem abvs_mem {h x : Ce} (hh : rightC h = true) : x ∈ abvs h ↔ 0 ≤ x.l ∧ underC x h = true := by
  have hl := (rightC_iff.1 hh).1.1
  rw [underC_iff]
  unfold abvs
  rw [List.mem_map]
  constructor
  · rintro ⟨k, hk, rfl⟩
    rw [List.mem_range] at hk
    have hk' : (k : Int) ≤ h.l := by omega
    have e : (aboveR h (k : Nat)).1 = aboveOf h (k : Nat) := by simp [aboveR, hh, hk']
    rw [e]
    exact ⟨by show (0 : Int) ≤ (k : Nat); omega, hk', rfl⟩
  · rintro ⟨h0, h1, h2⟩
    refine ⟨x.l.toNat, by rw [List.mem_range]; omega, ?_⟩
    have e : ((x.l.toNat : Nat) : Int) = x.l := by omega
    rw [e]
    simp [aboveR, hh, h0, h1, h2]
theorem nodup_le : ∀ {l m : List Ce}, l.Nodup → (∀ x ∈ l, x ∈ m) → l.length ≤ m.length
  | [], m, _, _ => Nat.zero_le _
  | x :: l, m, hn, hs => by
    have hx := hs x (List.mem_cons_self ..)
    have h1 := nodup_le (l := l) (m := m.erase x) (List.nodup_cons.1 hn).2 fun y hy => by
      have hne : y ≠ x := by rintro rfl; exact (List.nodup_cons.1 hn).1 hy
      exact (List.mem_erase_of_ne hne).2 (hs y (List.mem_cons_of_mem _ hy))
    have h2 := List.length_erase_of_mem hx
    have h3 := List.length_pos_of_mem hx
    simp only [List.length_cons]
    omega
theorem nd_mem : ∀ (d : Nat) (c : Ce) (S : List Sh) (x : Ce), rightC c = true → (d : Int) + c.l = 17 → (∀ s ∈ S, underC c (hm s) = true ∧ rightC (hm s) = true) →
    (x ∈ ndCells d c S ↔ x = c ∨ (underC c x = true ∧ ∃ s ∈ S, underC x (hm s) = true)) := by
  intro d
  induction d with
  | zero =>
    intro c S x hc hd
    have := (rightC_iff.1 hc).1
    omega
  | succ d ih =>
    intro c S x hc hd hS
    rw [ndCells_succ, List.mem_cons, List.mem_flatMap]
    have key : ∀ (i : Nat), i < 4 → (∃ s ∈ S, underC (childOf c (i : Nat)) (hm s) = true) → rightC (childOf c (i : Nat)) = true := by
      rintro i hi ⟨s, hs, hu⟩
      have h1 := (underC_iff.1 hu).1
      have h2 := (rightC_iff.1 (hS s hs).2).1
      have h3 : (childOf c (i : Nat)).l = c.l + 1 := rfl
      exact child_right hc (by omega) (by omega)
    constructor
    · rintro (rfl | ⟨i, hi, hx⟩)
      · exact .inl rfl
      · rw [List.mem_range] at hi
        unfold kidCells at hx
        split at hx
        · cases hx
        · rename_i hne
          obtain ⟨s, hs⟩ := List.exists_mem_of_ne_nil _ hne
          have hs' := List.mem_filter.1 hs
          have hr := key i hi ⟨s, hs'.1, hs'.2⟩
          have := (ih (childOf c (i : Nat)) (sub' (childOf c (i : Nat)) S) x hr (by show (d : Int) + (c.l + 1) = 17; omega) fun s hs => by
            have := List.mem_filter.1 hs
            exact ⟨this.2, (hS s this.1).2⟩).1 hx
          right
          rcases this with rfl | ⟨h1, t, ht, h2⟩
          · exact ⟨(child_under (by omega) (under_self _)).1, s, hs'.1, hs'.2⟩
          · exact ⟨(child_under (by omega) h1).1, t, (List.mem_filter.1 ht).1, h2⟩
    · rintro (rfl | ⟨h1, s, hs, h2⟩)
      · exact .inl rfl
      · by_cases hxc : x = c
        · exact .inl hxc
        right
        have hw := under_child h1 (Ne.symm hxc)
        obtain ⟨i, hi, hwi⟩ := way_nat c x
        rw [hwi] at hw
        refine ⟨i, List.mem_range.2 hi, ?_⟩
        have hsu := under_trans hw h2
        have hsm : s ∈ sub' (childOf c (i : Nat)) S := List.mem_filter.2 ⟨hs, hsu⟩
        unfold kidCells
        rw [if_neg (List.ne_nil_of_mem hsm)]
        exact (ih (childOf c (i : Nat)) (sub' (childOf c (i : Nat)) S) x (key i hi ⟨s, hs, hsu⟩) (by show (d : Int) + (c.l + 1) = 17; omega) fun s hs => by
            have := List.mem_filter.1 hs
            exact ⟨this.2, (hS s this.1).2⟩).2 (.inr ⟨hw, s, hsm, h2⟩)
theorem nd_under : ∀ (d : Nat) (c : Ce) (S : List Sh) (x : Ce), x ∈ ndCells d c S → underC c x = true := by
  intro d
  induction d with
  | zero => intro c S x h; cases h
  | succ d ih =>
    intro c S x h
    rw [ndCells_succ, List.mem_cons, List.mem_flatMap] at h
    rcases h with rfl | ⟨i, hi, hx⟩
    · exact under_self _
    · rw [List.mem_range] at hi
      unfold kidCells at hx
      split at hx
      · cases hx
      · exact (child_under (by omega) (ih _ _ _ hx)).1
theorem nd_nodup : ∀ (d : Nat) (c : Ce) (S : List Sh), (ndCells d c S).Nodup := by
  intro d
  induction d with
  | zero => intro c S; exact List.nodup_nil
  | succ d ih =>
    intro c S
    have hk : ∀ i, i < 4 → ∀ x ∈ kidCells d c S i, underC (childOf c (i : Nat)) x = true := fun i hi x hx => by
      unfold kidCells at hx
      split at hx
      · cases hx
      · exact nd_under _ _ _ _ hx
    rw [ndCells_succ, List.nodup_cons]
    refine ⟨fun h => ?_, ?_⟩
    · obtain ⟨i, hi, hx⟩ := List.mem_flatMap.1 h
      rw [List.mem_range] at hi
      exact (child_under (by omega) (hk i hi _ hx)).2.1 rfl
    · refine List.pairwise_flatMap.2 ⟨fun i _ => ?_, ?_⟩
      · unfold kidCells
        split
        · exact List.Pairwise.nil
        · exact ih _ _
      · refine List.Pairwise.imp_of_mem (R := (· < ·)) ?_ List.pairwise_lt_range
        intro i j hi hj hij x hx y hy e
        subst e
        rw [List.mem_range] at hi hj
        have h1 := (child_under (by omega) (hk i hi _ hx)).2.2
        have h2 := (child_under (by omega) (hk j hj _ hy)).2.2
        omega
theorem refC_nd {S xs : List Sh} (hS : ∀ s ∈ S, rightR s.box = true) (hm' : ∀ s, s ∈ xs ↔ s ∈ S) : (refC xs).length = (ndCells 17 root0 S).length := by
  have hr : ∀ s ∈ S, rightC (hm s) = true := fun s hs => home_right (hS s hs)
  have ho : ∀ s ∈ S, hmO s = hm s := fun s hs => by simp [hmO, homeR, hS s hs, hm]
  have m1 : ∀ x, x ∈ refC xs ↔ x = root0 ∨ ∃ s ∈ S, 0 ≤ x.l ∧ underC x (hm s) = true := fun x => by
    unfold refC
    rw [insAll_mem, List.mem_flatMap]
    simp only [List.mem_cons, List.not_mem_nil, or_false]
    refine or_congr Iff.rfl ⟨fun ⟨s, h1, h2⟩ => ?_, fun ⟨s, h1, h2⟩ => ?_⟩
    · have h1 := (hm' s).1 h1
      rw [ho s h1] at h2
      exact ⟨s, h1, (abvs_mem (hr s h1)).1 h2⟩
    · refine ⟨s, (hm' s).2 h1, ?_⟩
      rw [ho s h1]
      exact (abvs_mem (hr s h1)).2 h2
  have m2 : ∀ x, x ∈ ndCells 17 root0 S ↔ x = root0 ∨ (underC root0 x = true ∧ ∃ s ∈ S, underC x (hm s) = true) := fun x => nd_mem 17 root0 S x root_right (by decide) fun s hs => ⟨under_root (hr s hs), hr s hs⟩
  have n1 : (refC xs).Nodup := insAll_nodup (by simp)
  have n2 := nd_nodup 17 root0 S
  refine Nat.le_antisymm (nodup_le n1 fun x hx => ?_) (nodup_le n2 fun x hx => ?_)
  · rw [m2]
    rcases (m1 x).1 hx with h | ⟨s, hs, h0, h1⟩
    · exact .inl h
    · refine .inr ⟨?_, s, hs, h1⟩
      have e := underC_iff.1 h1
      have := above_right (hr s hs) h0 e.1
      rw [e.2] at this
      exact under_root this
  · rw [m1]
    rcases (m2 x).1 hx with h | ⟨h0, s, hs, h1⟩
    · exact .inl h
    · exact .inr ⟨s, hs, (underC_iff.1 h0).1, h1⟩
end Go.Proofs.Ytdeemchhbgomjaa
