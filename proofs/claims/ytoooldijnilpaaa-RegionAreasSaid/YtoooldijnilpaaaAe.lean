/- Rows of the call's own, further: from slot to slot, into a cell, turned in place, laid, grown. Plain lemmas, over any program. -/
import Derived.Test.YtoooldijnilpaaaAd
namespace Go.Proofs.Ytoooldijnilpaaa
set_option linter.all false
open Go.RowKit
namespace AM
section
variable {c : Cx} {N : Nat} {F : Fr} {H : List Bk} {a : Act} {w : World}

theorem own_nil {c : Cx} {w : World} {r : Root} {pr : Bool} {e sz : Nat} (h : 0 < sz) : SRel c w r (.own pr e 0 sz []) (.slice none 0 0) :=
  ⟨h, [], .nil, ⟨by simp, .inl ⟨rfl, rfl⟩⟩, fun u hu => by simp at hu, fun b hb => by cases hb⟩
theorem nil_of {vs : List Value} {cs : List V} {I : Nat → Nat → Option Value} {φ : List Nat} {base : Nat} {e sz : Nat} (h1 : RelL I φ cs vs) (h2 : w.ownsRow base e sz (.slice none 0 0) 0 vs) : cs = [] ∧ vs = [] := by
  have hv : vs = [] := List.eq_nil_of_length_eq_zero (by rw [h2.1]; simp)
  subst hv
  cases h1
  exact ⟨rfl, rfl⟩

/-- A row goes from slot u to slot t. -/
theorem Sim.hand {t u : Nat} {pr : Bool} {e n sz : Nat} {cs : List V} (h : Sim c N ⟨F, H⟩ a w) (hu : getF u F = some (.own pr e n sz cs)) (ht : t < N) :
    ∃ c' v, a.tmps[u]? = some v ∧ Sim c' N ⟨putF t (.own pr e n sz cs) (del u F), H⟩ (a.put (some t) v) w ∧ Ext c w c' w := by
  obtain ⟨v, hv, h0, vs, h1, h2, h6, h3⟩ := h.fr u _ (mem_getF hu)
  have hd : Sim c N ⟨del u F, H⟩ a w := h.sub fun p hp => (mem_del (x := p.2) (k := p.1) hp).1
  rcases h2.2 with ⟨rfl, rfl⟩ | ⟨g, cap, cur, rfl, hb0, g1, g2, g3, g4, g5⟩
  · obtain ⟨rfl, rfl⟩ := nil_of h1 h2
    exact ⟨_, _, hv, hd.put' ht (own_nil h0), Ext.free c w _⟩
  · obtain ⟨k1, k2⟩ := h3 g rfl
    have hlt := h.inv.lt g (by rw [k1]; simp)
    refine ⟨_, _, hv, hd.put_own ht hlt (fun id => by rw [k1]; simp) (fun id j => by rw [k1]; simp) (fun k x hx => ?_) ?_, Ext.give c w (fun _ => by rw [k1]; simp)⟩
    · have h5 := mem_del (mem_del hx).1
      refine ⟨by rw [k1]; simpa using Ne.symm h5.2.1, fun q hq => ?_⟩
      rw [k1] at hq
      cases hq
      exact h5.2.2
    · refine ⟨h0, vs, h1, h2, h6, fun b hb => ?_⟩
      cases hb
      exact ⟨give_self, k2⟩

/-! ## In place -/
theorem own_set {base e sz n g o : Nat} {u v : Value} {vs : List Value} (h : w.ownsRow base e sz u n vs) (hg : u.ownBlock = some g) (ho : o < vs.length) : (w.setCell ⟨g, o, none⟩ v).ownsRow base e sz u n (vs.set o v) := by
  rcases h.2 with ⟨rfl, _⟩ | ⟨g', cap, cur, rfl, hb, h1, h2, h3, h4, h5⟩
  · cases hg
  · cases hg
    refine ⟨by rw [List.length_set]; exact h.1, .inr ⟨g', cap, cur.setIfInBounds o v, rfl, hb, heap_set_self h1, h2, h3, by simpa using h4, ?_⟩⟩
    rw [Array.toList_setIfInBounds, List.take_set, h5]

theorem SRel.apart {r : Root} {x : SV} {v u : Value} {b o : Nat} {q : Root} (hb : c.R b = .own q) (hr : r ≠ q) (h : SRel c w r x v) : SRel c (w.setCell ⟨b, o, none⟩ u) r x v := by
  cases x with
  | v x => exact h
  | own pr e n sz cs =>
    obtain ⟨h0, vs, h1, h2, h6, h3⟩ := h
    refine ⟨h0, vs, h1, own_keep h2 fun g hg => heap_set_other (by
      rintro rfl
      have := (h3 _ hg).1
      rw [hb] at this
      cases this
      exact hr rfl), h6, h3⟩
  | pth r' off => exact h
  | lnk r' n => exact h
  | any => trivial

theorem Inv.poke {g o : Nat} {v : Value} {q : Root} (h : Inv c H w) (hg : c.R g = .own q) (hi : ∀ o, c.I g o = none) (hq : ∀ id j, q = .cell id j → Bare H (.cell id j)) : Inv c H (w.setCell ⟨g, o, none⟩ v) := by
  refine ⟨fun b o' u hu => ?_, h.len, fun b hb => by rw [size_set]; exact h.lt b hb, h.uniq, fun id b k hb hk => ?_⟩
  · have hne : b ≠ g := by rintro rfl; rw [hi] at hu; cases hu
    rw [World.cell?_of_block (a := ⟨b, o', none⟩) (heap_set_other (w := w) (p := ⟨g, o, none⟩) (u := v) hne)]
    exact h.imm b o' u hu
  · obtain ⟨h1, h2, h3⟩ := h.blk id b k hb hk
    have hne : b ≠ g := by rintro rfl; rw [hg] at h1; cases h1
    refine ⟨h1, h2, ?_⟩
    by_cases hck : ∃ cs, k = .cells cs
    rotate_left
    · exact BRel.stay (fun cs e => hck ⟨cs, e⟩) h3 (fun _ _ _ h => h) (fun _ _ h => h) (fun _ _ h ho => set_obj h ho)
    obtain ⟨cs, rfl⟩ := hck
    obtain ⟨arr, e, g1, g2, g6, g3⟩ := h3
    refine ⟨arr, e, (heap_set_other (w := w) (p := ⟨g, o, none⟩) (u := v) hne).trans g1, g2, g6, fun j x u hx hu => ?_⟩
    obtain ⟨g4, g5⟩ := g3 j x u hx hu
    refine ⟨g4, ?_⟩
    by_cases hrj : Root.cell id j = q
    · rcases hq id j hrj.symm cs hk x hx with ⟨y, rfl⟩ | rfl
      · exact g5
      · trivial
    · exact g5.apart hg hrj

/-- A cell of the row of slot t is turned. -/
theorem Sim.poke {t e n sz o : Nat} {cs : List V} {x : V} {b : Nat} {v : Value} (h : Sim c N ⟨F, H⟩ a w) (ht : getF t F = some (.own true e n sz cs)) (hb : c.R b = .own (.slot t)) (ho : o < cs.length) (hv1 : v.oneCell' = true) (hx : Rel c.I c.φ x v) :
    Sim c N ⟨setF t (.own true e n sz (cs.set o x)) F, H⟩ a (w.setCell ⟨b, o, none⟩ v) ∧ Ext c w c (w.setCell ⟨b, o, none⟩ v) := by
  obtain ⟨u, hu, h0, vs, h1, h2, h6, h3⟩ := h.fr t _ (mem_getF ht)
  have hblk : u.ownBlock = some b := by
    rcases h2.2 with ⟨rfl, rfl⟩ | ⟨g, cap, cur, rfl, _⟩
    · obtain ⟨rfl, rfl⟩ := nil_of h1 h2
      simp at ho
    · have := h.inv.uniq g b _ (h3 g rfl).1 hb
      subst this
      rfl
  obtain ⟨_, k2⟩ := h3 b hblk
  refine ⟨⟨h.inv.poke hb (fun o => by rw [k2]; rfl) (fun _ _ e => by cases e), h.size, h.defers, fun k y hy => ?_⟩, Ext.store c w (by rw [hb]; simp)⟩
  rcases mem_setF hy with ⟨rfl, rfl⟩ | ⟨hne, hy⟩
  · refine ⟨u, hu, h0, vs.set o v, h1.set o hx, own_set h2 hblk (by rw [← h1.len]; exact ho), fun u hu => (List.mem_or_eq_of_mem_set hu).elim (h6 u) (fun e => e ▸ hv1), fun b' hb' => ?_⟩
    obtain ⟨k3, k4⟩ := h3 b' hb'
    exact ⟨k3, fun o => by rw [k4]; rfl⟩
  · obtain ⟨u', hu', hs⟩ := h.fr k y hy
    exact ⟨u', hu', hs.apart hb (by simpa using hne)⟩

/-! ## Laid -/
theorem Ext.laid (c : Cx) (w : World) (o : Obj) (r : Root) : Ext c w (c.give w.heap.size r) (w.alloc o) :=
  ⟨rfl, rfl, rfl, by simp, fun k hk hr => ⟨heap_alloc_lt hk, by simp [Cx.give, Nat.ne_of_lt hk, hr], fun _ => rfl⟩, fun _ _ _ h => h, fun _ _ h => h⟩
/-- A new row for slot t. -/
theorem Sim.layOwn {t : Nat} {e n cap sz : Nat} {arr : Array Value} {cs : List V} (h : Sim c N ⟨F, H⟩ a w) (ht : t < N) (hsz : 0 < sz) (hc : RelL c.I c.φ cs (arr.toList.take (n * sz))) (hn : n ≤ cap) (hm : cap ≤ maxLen) (hs : arr.size = cap * sz) (hv1 : ∀ v ∈ arr.toList, v.oneCell' = true) :
    Sim (c.give w.heap.size (.slot t)) N ⟨putF t (.own true e n sz cs) F, H⟩ (a.put (some t) (.slice (some ⟨w.heap.size, 0, none⟩) n cap)) (w.alloc (.cells arr e)) ∧ Ext c w (c.give w.heap.size (.slot t)) (w.alloc (.cells arr e)) := by
  have hout := fresh_out h.inv
  have h1 : Sim c N ⟨F, H⟩ a (w.alloc (.cells arr e)) := h.more
  refine ⟨h1.put_own ht (by simp) (fun id => by rw [hout]; simp) (fun id j => by rw [hout]; simp) (fun k x hx => ⟨by rw [hout]; simp, fun q hq => by rw [hout] at hq; cases hq⟩) ?_,
    Ext.laid c w _ _⟩
  · refine ⟨hsz, _, hc, ⟨?_, .inr ⟨w.heap.size, cap, arr, rfl, Nat.zero_le _, heap_alloc_new w _, hn, hm, hs, rfl⟩⟩, fun u hu => hv1 u (List.mem_of_mem_take hu), fun b hb => ?_⟩
    · have : n * sz ≤ cap * sz := Nat.mul_le_mul_right _ hn
      rw [List.length_take, Nat.min_eq_left]
      simpa [hs] using this
    · cases hb
      exact ⟨give_self, fun o => by rw [if_pos rfl]; exact fresh_imm h.inv _ o (Nat.le_refl _)⟩

/-! ## Grown -/
theorem Inv.grown {w' : World} {row : Option Nat} (h : Inv c H w) (hg : w.grownBy w' row) (hrow : ∀ g, row = some g → ∃ t, c.R g = .own (.slot t)) (hk : ∀ g, row = some g → ∀ o v, c.I g o = some v → w'.cell? ⟨g, o, none⟩ = some v) (hcl : ∀ g, row = some g → ∃ arr e f, w.heap[g]? = some (.cells arr e f)) : Inv c H w' := by
  have hM : ∀ (b' : Nat) (o : Obj), w.heap[b']? = some o → (∀ arr e f, o ≠ Obj.cells arr e f) → w'.heap[b']? = some o := fun b' o hb ho => (hg.block b' (obj_lt hb) (fun e => by
    obtain ⟨arr, t, f, hc⟩ := hcl b' e.symm
    rw [hb] at hc
    cases hc
    exact ho _ _ _ rfl)).trans hb
  have hne : ∀ b, b < w.heap.size → (∀ t, c.R b ≠ .own (.slot t)) → w'.heap[b]? = w.heap[b]? := fun b hb hr => hg.block b hb (fun e => by
    obtain ⟨t, ht⟩ := hrow b e.symm
    exact hr t ht)
  refine ⟨fun b o v hv => ?_, h.len, fun b hb => Nat.lt_of_lt_of_le (h.lt b hb) hg.size, h.uniq, fun id b k hb hk' => ?_⟩
  · by_cases hr : row = some b
    · exact hk b hr o v hv
    · rw [World.cell?_of_block (a := ⟨b, o, none⟩) (hg.block b (World.block_lt_of_cell? w _ (h.imm b o v hv)) (Ne.symm hr))]
      exact h.imm b o v hv
  · obtain ⟨h1, h2, h3⟩ := h.blk id b k hb hk'
    refine ⟨h1, h2, ?_⟩
    have hbl := h.lt b (by rw [h1]; simp)
    by_cases hck : ∃ cs, k = .cells cs
    rotate_left
    · exact BRel.stay (fun cs e => hck ⟨cs, e⟩) h3 (fun _ _ _ h => h) (fun _ _ h => h) (hM)
    obtain ⟨cs, rfl⟩ := hck
    obtain ⟨arr, e, g1, g2, g6, g3⟩ := h3
    refine ⟨arr, e, (hne b hbl (fun t => by rw [h1]; simp)).trans g1, g2, g6, fun j x v hx hv => ⟨(g3 j x v hx hv).1, ?_⟩⟩
    exact SRel.mono (c := c) (c' := c) (w := w) (w' := w') (fun _ _ _ h => h) (fun _ _ h => h) (fun b' q hq hb' => ⟨hb', hne b' (h.lt b' (by rw [hb']; simp)) (fun t e => by
      rw [hb'] at e
      cases e
      rcases hq with hq | hq
      · cases hq
      · rw [flat_refers (g3 j x v hx hv).1] at hq; cases hq), fun _ => rfl⟩) (g3 j x v hx hv).2

/-- append: the row of slot u (or none) grows and comes to slot t. -/
theorem Sim.grow {t u : Nat} {pr : Bool} {e n m sz : Nat} {cs ds : List V} {v v' : Value} {vs ns : List Value} {w' : World} (h : Sim c N ⟨F, H⟩ a w) (ht : t < N) (h0 : 0 < sz)
    (hu : ∀ k x, (k, x) ∈ F → k ≠ u ∧ x.refers (.slot u) = false) (h1 : RelL c.I c.φ cs vs) (h2 : w.ownsRow 0 e sz v n vs) (h3 : ∀ b, v.ownBlock = some b → c.R b = .own (.slot u) ∧ ∀ o, c.I b o = if pr then none else vs[o]?)
    (hd : RelL c.I c.φ ds ns) (hv1 : ∀ x ∈ vs ++ ns, x.oneCell' = true) (h4 : w'.ownsRow 0 e sz v' (n + m) (vs ++ ns)) (hg : w.grownBy w' v.ownBlock) (hat : v'.ownBlock = v.ownBlock ∨ v'.ownBlock = some w.heap.size)
    (hold : ∀ g, v.ownBlock = some g → ∀ o x, vs[o]? = some x → w'.cell? ⟨g, o, none⟩ = some x) :
    ∃ c', Sim c' N ⟨putF t (.own pr e (n + m) sz (cs ++ ds)) F, H⟩ (a.put (some t) v') w' ∧ Ext c w c' w' := by
  have hI : ∀ g, v.ownBlock = some g → ∀ o x, c.I g o = some x → w'.cell? ⟨g, o, none⟩ = some x := fun g hgv o x hx => by
    rw [(h3 g hgv).2] at hx
    cases pr
    · exact hold g hgv o x (by simpa using hx)
    · simp at hx
  have i1 : Inv c H w' := h.inv.grown hg (fun g hg => ⟨u, (h3 g hg).1⟩) hI (fun g hgv => by
    rcases h2.2 with ⟨rfl, _⟩ | ⟨g', cap, cur, rfl, _, g1, _⟩
    · cases hgv
    · cases hgv; exact ⟨_, _, _, g1⟩)
  have s1 : Sim c N ⟨F, H⟩ a w' := ⟨i1, h.size, h.defers, fun k x hx => by
    obtain ⟨y, hy, hs⟩ := h.fr k x hx
    refine ⟨y, hy, SRel.mono (c := c) (c' := c) (w := w) (w' := w') (fun _ _ _ h => h) (fun _ _ h => h) (fun b q hq hb => ⟨hb, hg.block b (h.inv.lt b (by rw [hb]; simp)) (fun e => ?_), fun _ => rfl⟩) hs⟩
    have := (h3 b e.symm).1
    rw [hb] at this
    cases this
    obtain ⟨g1, g2⟩ := hu k x hx
    rcases hq with hq | hq
    · cases hq; exact g1 rfl
    · rw [g2] at hq; cases hq⟩
  have x1 : Ext c w c w' := ⟨hg.os, hg.tape, hg.output, hg.size, fun b hb hr => ⟨hg.block b hb (fun e => by rw [(h3 b e.symm).1] at hr; cases hr), hr, fun _ => rfl⟩, fun _ _ _ h => h, fun _ _ h => h⟩
  rcases h4.2 with ⟨rfl, hz⟩ | ⟨g, cap, cur, rfl, _, g1, g2, g3, g4, g5⟩
  · have hn : n = 0 := by omega
    have hm : m = 0 := by omega
    subst hn hm
    have e1 : vs = [] := List.eq_nil_of_length_eq_zero (by rw [h2.1]; simp)
    have e2 : vs ++ ns = [] := List.eq_nil_of_length_eq_zero (by rw [h4.1]; simp)
    subst e1
    simp at e2
    subst e2
    cases h1
    cases hd
    exact ⟨_, s1.put' ht (own_nil h0), x1.trans (Ext.free c w' _)⟩
  · have hgl : g < w'.heap.size := Blk.lt (t := e) g1
    have hrole : c.R g = .own (.slot u) ∨ c.R g = .out := by
      rcases hat with e | e
      · exact .inl (h3 g e.symm).1
      · have : g = w.heap.size := by simpa [Value.ownBlock] using e
        subst this
        exact .inr (fresh_out h.inv)
    have hp : Sim (c.give g (.slot t)) N ⟨putF t .any F, H⟩ (a.put (some t) (.slice (some ⟨g, 0, none⟩) (n + m) cap)) w' := by
      have hi : Inv (c.give g (.slot t)) H w' := i1.give hgl trivial (fun id e => by rcases hrole with h | h <;> rw [h] at e <;> cases e) (fun id j e => by rcases hrole with h | h <;> rw [h] at e <;> cases e)
      refine ⟨hi, by simpa [Act.put] using h.size, h.defers, fun k y hy => ?_⟩
      unfold putF at hy
      simp only [List.mem_cons, Prod.mk.injEq] at hy
      rcases hy with ⟨rfl, rfl⟩ | hy
      · exact ⟨_, by simp [Act.put, Array.getElem?_setIfInBounds, h.size, ht]; rfl, trivial⟩
      · obtain ⟨q1, q2, q3⟩ := mem_del hy
        obtain ⟨z, hz, hs⟩ := s1.fr k y q1
        obtain ⟨f1, f2⟩ := hu k y q1
        refine ⟨z, by simpa [Act.put, Array.getElem?_setIfInBounds, Ne.symm q2] using hz, hs.give (fun q hq e => ?_) (by simpa using q2) q3⟩
        rcases hrole with hr | hr
        · rw [hr] at e
          cases e
          rcases hq with hq | hq
          · cases hq; exact f1 rfl
          · rw [f2] at hq; cases hq
        · rw [hr] at e; cases e
    have hx : Ext c w' (c.give g (.slot t)) w' ∨ c.R g = .out := by
      rcases hrole with hr | hr
      · exact .inl (Ext.give c w' (fun _ => by rw [hr]; simp))
      · exact .inr hr
    have x2 : Ext c w (c.give g (.slot t)) w' := by
      rcases hx with hx | hr
      · exact x1.trans hx
      · refine ⟨hg.os, hg.tape, hg.output, hg.size, fun b hb hrb => ?_, fun _ _ _ h => h, fun _ _ h => h⟩
        have hbg : b ≠ g := by
          rintro rfl
          rcases hat with e | e
          · rw [(h3 b e.symm).1] at hr; cases hr
          · have : b = w.heap.size := by simpa [Value.ownBlock] using e
            omega
        exact ⟨(x1.out b hb hrb).1, by simp [Cx.give, hbg, hrb], fun _ => rfl⟩
    have hcell : ∀ o x, (vs ++ ns)[o]? = some x → w'.cell? ⟨g, o, none⟩ = some x := fun o x hx => own_cell (g := g) h4 rfl hx
    have hIg : ∀ o x, c.I g o = some x → (vs ++ ns)[o]? = some x := fun o x hx => by
      rcases hat with e | e
      · rw [(h3 g e.symm).2] at hx
        cases pr
        · simp only [Bool.false_eq_true, if_false] at hx
          rw [List.getElem?_append_left (List.getElem?_eq_some_iff.1 hx).1]
          exact hx
        · simp at hx
      · have : g = w.heap.size := by simpa [Value.ownBlock] using e
        subst this
        rw [fresh_imm h.inv _ o (Nat.le_refl _)] at hx
        cases hx
    cases pr with
    | true =>
      refine ⟨_, ⟨hp.inv, hp.size, hp.defers, fun k y hy => ?_⟩, x2⟩
      unfold putF at hy
      simp only [List.mem_cons, Prod.mk.injEq] at hy
      rcases hy with ⟨rfl, rfl⟩ | hy
      · obtain ⟨z, hz, _⟩ := hp.fr k .any (by simp [putF])
        have : z = .slice (some ⟨g, 0, none⟩) (n + m) cap := by
          simp [Act.put, Array.getElem?_setIfInBounds, h.size, ht] at hz
          exact hz.symm
        subst this
        refine ⟨_, hz, h0, vs ++ ns, h1.append hd, h4, hv1, fun b hb => ?_⟩
        cases hb
        refine ⟨give_self, fun o => ?_⟩
        rcases hat with e | e
        · have := (h3 g e.symm).2 o
          show c.I g o = _
          simpa using this
        · have : g = w.heap.size := by simpa [Value.ownBlock] using e
          subst this
          rw [if_pos rfl]
          exact fresh_imm h.inv _ o (Nat.le_refl _)
      · exact hp.fr k y (by unfold putF; exact List.mem_cons_of_mem _ hy)
    | false =>
      have hfix : ∀ o, ((c.give g (.slot t)).fix g (vs ++ ns)).I g o = (vs ++ ns)[o]? := fun o => by
        simp only [Cx.fix, if_true]
        show (match c.I g o with | some v => some v | none => (vs ++ ns)[o]?) = _
        cases hi : c.I g o with
        | none => rfl
        | some x => rw [hIg o x hi]
      refine ⟨(c.give g (.slot t)).fix g (vs ++ ns), ⟨hp.inv.fix give_self hcell (fun id j e => by cases e), hp.size, hp.defers, fun k y hy => ?_⟩, x2.trans ⟨rfl, rfl, rfl, Nat.le_refl _, fun b hb hr => ⟨rfl, hr, fun o => fix_other (by rintro rfl; rw [give_self] at hr; cases hr)⟩, fix_mono, fun _ _ h => h⟩⟩
      unfold putF at hy
      simp only [List.mem_cons, Prod.mk.injEq] at hy
      rcases hy with ⟨rfl, rfl⟩ | hy
      · obtain ⟨z, hz, _⟩ := hp.fr k .any (by simp [putF])
        have : z = .slice (some ⟨g, 0, none⟩) (n + m) cap := by
          simp [Act.put, Array.getElem?_setIfInBounds, h.size, ht] at hz
          exact hz.symm
        subst this
        refine ⟨_, hz, h0, vs ++ ns, RelL.mono fix_mono (fun _ _ h => h) (h1.append hd), h4, hv1, fun b hb => ?_⟩
        cases hb
        exact ⟨give_self, fun o => by rw [hfix]; simp⟩
      · obtain ⟨z, hz, hs⟩ := hp.fr k y (by unfold putF; exact List.mem_cons_of_mem _ hy)
        exact ⟨z, hz, hs.fix (by rw [give_self]; simpa using Ne.symm (mem_del hy).2.1) (.inr trivial)⟩
end
end AM
end Go.Proofs.Ytoooldijnilpaaa
