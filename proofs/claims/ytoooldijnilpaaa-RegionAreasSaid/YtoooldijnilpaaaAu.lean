/- Rows of the call's own that a cell of a numbered block holds: taken out into a slot, laid in out of a slot. Plain lemmas, over any program. -/
import Derived.Test.YtoooldijnilpaaaAe
namespace Go.Proofs.Ytoooldijnilpaaa
set_option linter.all false
open Go.RowKit
namespace AM
section
variable {c : Cx} {N : Nat} {F : Fr} {H : List Bk} {a : Act} {w : World}

theorem setBlk_eq' {id j : Nat} {x : SV} {cs : List SV} (hk : H[id]? = some (.cells cs)) : setBlk H id j x = H.set id (.cells (cs.set j x)) := by
  unfold setBlk
  rw [hk]

/-- A cell of which nothing is said any more. -/
theorem Inv.dim {id j : Nat} {ks : List SV} (h : Inv c H w) (hk : H[id]? = some (.cells ks)) : Inv c (setBlk H id j .any) w := by
  refine ⟨h.imm, by rw [setBlk_len]; exact h.len, h.lt, h.uniq, fun id' b k hb hk' => ?_⟩
  rw [setBlk_get hk] at hk'
  by_cases hid : id' = id
  · subst hid
    rw [if_pos rfl] at hk'
    cases hk'
    obtain ⟨h1, h2, arr, e, g1, g2, g6, g3⟩ := h.blk id' b _ hb hk
    refine ⟨h1, h2, arr, e, g1, by simp [g2], g6, fun i x v hx hv => ?_⟩
    rw [List.getElem?_set] at hx
    by_cases hij : j = i
    · subst hij
      simp only [if_true] at hx
      split at hx
      · cases hx
        exact ⟨rfl, trivial⟩
      · cases hx
    · rw [if_neg hij] at hx
      exact g3 i x v hx hv
  · rw [if_neg hid] at hk'
    exact h.blk id' b k hb hk'
theorem Sim.dim {id j : Nat} {ks : List SV} (h : Sim c N ⟨F, H⟩ a w) (hk : H[id]? = some (.cells ks)) : Sim c N ⟨F, setBlk H id j .any⟩ a w := ⟨h.inv.dim hk, h.size, h.defers, h.fr⟩
theorem bare_dim {id j : Nat} {ks : List SV} (hk : H[id]? = some (.cells ks)) : Bare (setBlk H id j .any) (.cell id j) := by
  intro cs hc x hx
  rw [setBlk_get hk, if_pos rfl] at hc
  cases hc
  rw [List.getElem?_set] at hx
  simp only [if_true] at hx
  split at hx
  · cases hx; exact .inr rfl
  · cases hx

/-- The frame without what leads to a root's row. -/
def delR (r : Root) : Fr → Fr
  | [] => []
  | (k, x) :: F => bif x.refers r then delR r F else (k, x) :: delR r F
theorem mem_delR {r : Root} {k : Nat} {x : SV} : ∀ {F : Fr}, (k, x) ∈ delR r F → (k, x) ∈ F ∧ x.refers r = false
  | [], h => by cases h
  | (j, y) :: F, h => by
    unfold delR at h
    cases hc : y.refers r with
    | true =>
      rw [hc] at h
      obtain ⟨h1, h2⟩ := mem_delR (F := F) (by simpa using h)
      exact ⟨List.mem_cons_of_mem _ h1, h2⟩
    | false =>
      rw [hc] at h
      simp only [cond_false, List.mem_cons, Prod.mk.injEq] at h
      rcases h with ⟨rfl, rfl⟩ | h
      · exact ⟨by simp, hc⟩
      · obtain ⟨h1, h2⟩ := mem_delR (F := F) h
        exact ⟨List.mem_cons_of_mem _ h1, h2⟩

/-- A row goes from a cell to a slot. -/
theorem Sim.take {id off b d : Nat} {ks : List SV} {pr : Bool} {e n sz : Nat} {cs : List V} (h : Sim c N ⟨F, H⟩ a w) (hb : c.φ[id]? = some b) (hk : H[id]? = some (.cells ks)) (hj : ks[off]? = some (.own pr e n sz cs)) (hd : d < N) :
    ∃ c' v, w.cell? ⟨b, off, none⟩ = some v ∧ Sim c' N ⟨putF d (.own pr e n sz cs) (delR (.cell id off) F), setBlk H id off .any⟩ (a.put (some d) v) w ∧ Ext c w c' w := by
  obtain ⟨hr, hi, arr, e', q1, q2, q6, q3⟩ := h.inv.blk id b _ hb hk
  have hlt : off < arr.size := by rw [q2]; exact (List.getElem?_eq_some_iff.1 hj).1
  obtain ⟨_, h0, vs, h1, h2, h6, h3⟩ := q3 off _ _ hj (Array.getElem?_eq_getElem hlt)
  have hu : w.cell? ⟨b, off, none⟩ = some arr[off] := by simp [World.cell?, q1, hlt]
  generalize arr[off] = u at *
  have s1 : Sim c N ⟨delR (.cell id off) F, setBlk H id off .any⟩ a w := (h.sub fun p hp => (mem_delR (x := p.2) (k := p.1) hp).1).dim hk
  rcases h2.2 with ⟨rfl, rfl⟩ | ⟨g, cap, cur, rfl, hb0, g1, g2, g3, g4, g5⟩
  · obtain ⟨rfl, rfl⟩ := nil_of h1 h2
    exact ⟨_, _, hu, s1.put' hd (own_nil h0), Ext.free c w _⟩
  · obtain ⟨k1, k2⟩ := h3 g rfl
    have hglt := h.inv.lt g (by rw [k1]; simp)
    refine ⟨_, _, hu, s1.put_own hd hglt (fun i => by rw [k1]; simp) (fun i j hij => ?_) (fun k x hx => ?_) ?_, Ext.give c w (fun _ => by rw [k1]; simp)⟩
    · rw [k1] at hij
      cases hij
      exact bare_dim hk
    · refine ⟨by rw [k1]; simp, fun q hq => ?_⟩
      rw [k1] at hq
      cases hq
      exact (mem_delR (mem_del hx).1).2
    · refine ⟨h0, vs, h1, h2, h6, fun b' hb' => ?_⟩
      cases hb'
      exact ⟨give_self, k2⟩

/-- A row goes from a slot to a cell. -/
theorem Sim.place {id off b u : Nat} {ks : List SV} {pr : Bool} {e n sz : Nat} {cs : List V} (h : Sim c N ⟨F, H⟩ a w) (hu : getF u F = some (.own pr e n sz cs)) (hb : c.φ[id]? = some b) (hk : H[id]? = some (.cells ks)) (hj : off < ks.length) :
    ∃ c' v, a.tmps[u]? = some v ∧ v.oneCell' = true ∧ Sim c' N ⟨delR (.cell id off) (del u F), setBlk H id off (.own pr e n sz cs)⟩ a (w.setCell ⟨b, off, none⟩ v) ∧ Ext c w c' (w.setCell ⟨b, off, none⟩ v) := by
  obtain ⟨v, hv, h0, vs, h1, h2, h6, h3⟩ := h.fr u _ (mem_getF hu)
  have s1 : Sim c N ⟨delR (.cell id off) (del u F), setBlk H id off .any⟩ a w := (h.sub fun p hp => (mem_del (mem_delR (x := p.2) (k := p.1) hp).1).1).dim hk
  have hk1 : (setBlk H id off .any)[id]? = some (.cells (ks.set off .any)) := by rw [setBlk_get hk, if_pos rfl]
  obtain ⟨hr, _⟩ := h.inv.blk id b _ hb hk
  have hset : ∀ x, (setBlk H id off .any).set id (.cells ((ks.set off .any).set off x)) = setBlk H id off x := fun x => by
    rw [setBlk_eq' hk, setBlk_eq' hk]
    simp
  rcases h2.2 with ⟨rfl, rfl⟩ | ⟨g, cap, cur, rfl, hb0, g1, g2, g3, g4, g5⟩
  · obtain ⟨rfl, rfl⟩ := nil_of h1 h2
    have s2 := s1.store' (j := off) (v := .slice none 0 0) (x := .own pr e 0 sz []) hb hk1 rfl rfl (own_nil h0)
    rw [hset] at s2
    exact ⟨_, _, hv, rfl, s2, Ext.store c w (by rw [hr]; simp)⟩
  · obtain ⟨k1, k2⟩ := h3 g rfl
    have hglt := h.inv.lt g (by rw [k1]; simp)
    have hbg : b ≠ g := by rintro rfl; rw [hr] at k1; cases k1
    have s2 : Sim (c.give g (.cell id off)) N ⟨delR (.cell id off) (del u F), setBlk H id off .any⟩ a w := by
      refine ⟨s1.inv.give hglt (bare_dim hk) (fun i => by rw [k1]; simp) (fun i j hij => by rw [k1] at hij; cases hij), s1.size, s1.defers, fun k x hx => ?_⟩
      obtain ⟨v', hv', hs⟩ := s1.fr k x hx
      have m1 := mem_delR hx
      have m2 := mem_del m1.1
      refine ⟨v', hv', hs.give (fun q hq hR => ?_) (by simp) m1.2⟩
      rw [k1] at hR
      cases hR
      rcases hq with hq | hq
      · cases hq; exact m2.2.1 rfl
      · rw [m2.2.2] at hq; cases hq
    have hx : SRel (c.give g (.cell id off)) (w.setCell ⟨b, off, none⟩ (.slice (some ⟨g, 0, none⟩) n cap)) (.cell id off) (.own pr e n sz cs) (.slice (some ⟨g, 0, none⟩) n cap) := by
      refine ⟨h0, vs, h1, own_keep h2 fun g' hg' => heap_set_other (by cases hg'; exact Ne.symm hbg), h6, fun b' hb' => ?_⟩
      cases hb'
      exact ⟨give_self, k2⟩
    have s3 := s2.store' (j := off) (v := .slice (some ⟨g, 0, none⟩) n cap) (x := .own pr e n sz cs) (show (c.give g (.cell id off)).φ[id]? = some b from hb) hk1 rfl rfl hx
    rw [hset] at s3
    exact ⟨_, _, hv, rfl, s3, (Ext.give c w (r := .cell id off) (b := g) fun _ => by rw [k1]; simp).trans (Ext.store _ w (by rw [give_abs hr hbg]; simp))⟩
end
end AM
end Go.Proofs.Ytoooldijnilpaaa
