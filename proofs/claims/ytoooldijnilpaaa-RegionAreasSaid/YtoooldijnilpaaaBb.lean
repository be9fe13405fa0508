/- A row of the call's own that is looked at alone from here on. Plain lemmas, over any program. -/
import Derived.Test.YtoooldijnilpaaaAv
namespace Go.Proofs.Ytoooldijnilpaaa
set_option linter.all false
open Go.RowKit
namespace AM
theorem setF_self {t : Nat} {x y : SV} : ∀ {F : Fr}, getF t F = some x → (t, y) ∈ setF t y F
  | [], h => by cases h
  | (j, z) :: F, h => by
    unfold getF at h
    unfold setF
    cases hj : j == t with
    | true =>
      have : j = t := by simpa using hj
      subst this
      simp
    | false =>
      rw [hj] at h
      simp only [cond_false] at h ⊢
      exact List.mem_cons_of_mem _ (setF_self h)
theorem setF_other {t k : Nat} {x y : SV} : ∀ {F : Fr}, (k, x) ∈ F → k ≠ t → (k, x) ∈ setF t y F
  | [], h, _ => by cases h
  | (j, z) :: F, h, hne => by
    unfold setF
    cases hj : j == t with
    | true =>
      have : j = t := by simpa using hj
      subst this
      simp only [cond_true]
      rcases List.mem_cons.1 h with e | h
      · cases e
        exact absurd rfl hne
      · first | exact List.mem_cons_of_mem _ h | exact List.mem_cons_of_mem _ (setF_other h hne)
    | false =>
      simp only [cond_false]
      rcases List.mem_cons.1 h with e | h
      · cases e; simp
      · exact List.mem_cons_of_mem _ (setF_other h hne)
theorem Sim.asSl {c : Cx} {N : Nat} {a : Act} {w : World} {F : Fr} {H : List Bk} {t : Nat} {pr : Bool} {e n sz : Nat} {cs : List V} (h : Sim c N ⟨F, H⟩ a w) (ht : getF t F = some (.own pr e n sz cs)) : ∃ c', Sim c' N ⟨setF t (.v (.sl n sz cs)) F, H⟩ a w ∧ Ext c w c' w := by
  obtain ⟨c', u, _, _, h1, h2⟩ := h.share ht
  refine ⟨c', ⟨h1.inv, h1.size, h1.defers, fun k x hx => ?_⟩, h2⟩
  rcases mem_setF hx with ⟨rfl, rfl⟩ | ⟨hne, hx⟩
  · have hm : (k, SV.own false e n sz cs) ∈ setF k (.own false e n sz cs) F := setF_self ht
    obtain ⟨v, hv, hr⟩ := h1.fr k _ hm
    refine ⟨v, hv, ?_⟩
    obtain ⟨h0, vs, r1, r2, r3, r4⟩ := hr
    rcases r2.2 with ⟨rfl, rfl⟩ | ⟨g, cap, cur, rfl, _, g1, g2, g3, g4, g5⟩
    · obtain ⟨rfl, rfl⟩ := nil_of r1 r2
      exact Rel.sl0
    · obtain ⟨_, k2⟩ := r4 g rfl
      exact Rel.sl r1 (fun j u hu => by rw [Nat.zero_add, k2]; simpa using hu) (by rw [r1.len, r2.1]) g2 g3 r3
  · exact h1.fr k x (setF_other hx hne)
theorem AW.asSl {P : Program} {N : Nat} {F : Fr} {H : List Bk} {x : Code} {Q : Exit → St → Prop} (t : Nat) {pr : Bool} {e n sz : Nat} {cs : List V} (ht : getF t F = some (.own pr e n sz cs)) (h : AW P N x Q ⟨setF t (.v (.sl n sz cs)) F, H⟩) : AW P N x Q ⟨F, H⟩ := fun c a w hs => by
  obtain ⟨c', h1, h2⟩ := hs.asSl ht
  refine wp_mono (h c' a w h1) fun e a' w' he => Post.step h2 he
end AM
end Go.Proofs.Ytoooldijnilpaaa
