/- Entries in order, heaps of entries: plain, no program in sight. -/
namespace Go.Proofs.Ytmjnffjacgjfmaa

structure Ent where
  k : Int
  t : Int
  i : Int
  deriving DecidableEq
namespace Ent
def lt (a b : Ent) : Bool := decide (a.k < b.k ∨ a.k = b.k ∧ (a.t < b.t ∨ a.t = b.t ∧ a.i < b.i))
theorem lt_iff (a b : Ent) : a.lt b = true ↔ (a.k < b.k ∨ a.k = b.k ∧ (a.t < b.t ∨ a.t = b.t ∧ a.i < b.i)) := by unfold lt; simp
theorem nlt_iff (a b : Ent) : a.lt b = false ↔ ¬ (a.k < b.k ∨ a.k = b.k ∧ (a.t < b.t ∨ a.t = b.t ∧ a.i < b.i)) := by unfold lt; simp
theorem ext_ {a b : Ent} (h1 : a.k = b.k) (h2 : a.t = b.t) (h3 : a.i = b.i) : a = b := by
  cases a; cases b; simp_all
theorem lt_irrefl (a : Ent) : a.lt a = false := by rw [nlt_iff]; omega
theorem lt_trans {a b c : Ent} (h : a.lt b = true) (k : b.lt c = true) : a.lt c = true := by rw [lt_iff] at *; omega
theorem lt_asymm {a b : Ent} (h : a.lt b = true) : b.lt a = false := by rw [lt_iff] at h; rw [nlt_iff]; omega
/-- 'not behind': a ≤ b, b ≤ c. -/
theorem le_trans {a b c : Ent} (h : b.lt a = false) (k : c.lt b = false) : c.lt a = false := by rw [nlt_iff] at *; omega
theorem le_antisymm {a b : Ent} (h : b.lt a = false) (k : a.lt b = false) : a = b := by
  rw [nlt_iff] at *
  exact ext_ (by omega) (by omega) (by omega)
end Ent

def put : List Ent → Ent → List Ent
  | [], e => [e]
  | x :: l, e => if e.lt x then e :: x :: l else x :: put l e
theorem put_len (l : List Ent) (e : Ent) : (put l e).length = l.length + 1 := by
  induction l with
  | nil => rfl
  | cons x l ih => unfold put; split <;> simp [ih]
theorem put_perm (l : List Ent) (e : Ent) : (put l e).Perm (e :: l) := by
  induction l with
  | nil => exact List.Perm.refl _
  | cons x l ih =>
    unfold put
    split
    · exact List.Perm.refl _
    · exact (List.Perm.cons x ih).trans (List.Perm.swap e x l)
def Srt (l : List Ent) : Prop := l.Pairwise fun a b => b.lt a = false
theorem put_srt {l : List Ent} (h : Srt l) (e : Ent) : Srt (put l e) := by
  induction l with
  | nil => exact List.pairwise_singleton _ _
  | cons x l ih =>
    have hx := List.pairwise_cons.1 h
    unfold put
    split
    · rename_i he
      refine List.pairwise_cons.2 ⟨fun b hb => ?_, h⟩
      rcases List.mem_cons.1 hb with rfl | hb
      · exact Ent.lt_asymm he
      · exact Ent.le_trans (Ent.lt_asymm he) (hx.1 b hb)
    · rename_i he
      have he : e.lt x = false := by simpa using he
      refine List.pairwise_cons.2 ⟨fun b hb => ?_, ih hx.2⟩
      rcases List.mem_cons.1 ((put_perm l e).mem_iff.1 hb) with rfl | hb
      · exact he
      · exact hx.1 b hb
theorem srt_unique {l m : List Ent} (hl : Srt l) (hm : Srt m) (h : l.Perm m) : l = m := by
  induction l generalizing m with
  | nil => exact (List.nil_perm.1 h).symm
  | cons x l ih =>
    cases m with
    | nil => exact absurd h.length_eq (by simp)
    | cons y m =>
      have hx := List.pairwise_cons.1 hl
      have hy := List.pairwise_cons.1 hm
      have e : x = y := by
        rcases List.mem_cons.1 (h.mem_iff.1 (List.mem_cons_self ..)) with h1 | h1
        · exact h1
        · rcases List.mem_cons.1 (h.mem_iff.2 (List.mem_cons_self ..)) with h2 | h2
          · exact h2.symm
          · exact Ent.le_antisymm (hx.1 y h2) (hy.1 x h1)
      subst e
      rw [ih hx.2 hy.2 (List.Perm.cons_inv h)]

/-- The entry at a place. -/
def at_ (l : List Ent) (i : Nat) : Ent := (l[i]?).getD ⟨0, 0, 0⟩
theorem at_eq {l : List Ent} {i : Nat} (h : i < l.length) : at_ l i = l[i] := by unfold at_; rw [List.getElem?_eq_getElem h]; rfl
def swapL (l : List Ent) (i j : Nat) : List Ent :=
  match l[i]?, l[j]? with
  | some x, some y => (l.set i y).set j x
  | _, _ => l
theorem swapL_eq {l : List Ent} {i j : Nat} (hi : i < l.length) (hj : j < l.length) : swapL l i j = (l.set i l[j]).set j l[i] := by
  unfold swapL
  rw [List.getElem?_eq_getElem hi, List.getElem?_eq_getElem hj]
theorem swapL_len (l : List Ent) (i j : Nat) : (swapL l i j).length = l.length := by
  unfold swapL
  split <;> simp
theorem swapL_at {l : List Ent} {i j : Nat} (hi : i < l.length) (hj : j < l.length) (k : Nat) : at_ (swapL l i j) k = if k = j then at_ l i else if k = i then at_ l j else at_ l k := by
  rw [swapL_eq hi hj]
  unfold at_
  by_cases h1 : k = j
  · subst h1
    simp [hi, hj]
  · rw [if_neg h1, List.getElem?_set_ne (fun h => h1 h.symm)]
    by_cases h2 : k = i
    · subst h2
      simp [hi, hj]
    · rw [if_neg h2, List.getElem?_set_ne (fun h => h2 h.symm)]
theorem swapL_perm {l : List Ent} {i j : Nat} (hi : i < l.length) (hj : j < l.length) : (swapL l i j).Perm l := by
  rw [swapL_eq hi hj]
  have h := Array.swap_perm (xs := l.toArray) (i := i) (j := j) (by simpa using hi) (by simpa using hj)
  have h2 := Array.perm_iff_toList_perm.1 h
  simpa [Array.toList_swap] using h2

def upF : Nat → List Ent → Nat → List Ent
  | 0, l, _ => l
  | f + 1, l, j => if j ≠ 0 ∧ (at_ l j).lt (at_ l ((j - 1) / 2)) = true then upF f (swapL l ((j - 1) / 2) j) ((j - 1) / 2) else l
def downF : Nat → List Ent → Nat → Nat → List Ent
  | 0, l, _, _ => l
  | f + 1, l, i, n =>
    if n ≤ 2 * i + 1 then l else
    if (at_ l (if 2 * i + 2 < n ∧ (at_ l (2 * i + 2)).lt (at_ l (2 * i + 1)) = true then 2 * i + 2 else 2 * i + 1)).lt (at_ l i) = true then
      downF f (swapL l i (if 2 * i + 2 < n ∧ (at_ l (2 * i + 2)).lt (at_ l (2 * i + 1)) = true then 2 * i + 2 else 2 * i + 1)) (if 2 * i + 2 < n ∧ (at_ l (2 * i + 2)).lt (at_ l (2 * i + 1)) = true then 2 * i + 2 else 2 * i + 1) n
    else l

theorem downF_len (f : Nat) : ∀ (l : List Ent) (i n : Nat), (downF f l i n).length = l.length := by
  induction f with
  | zero => intro l i n; rfl
  | succ f ih =>
    intro l i n
    unfold downF
    repeat' split
    all_goals first | rfl | rw [ih, swapL_len]

def HeapN (l : List Ent) (n : Nat) : Prop := ∀ c, 0 < c → c < n → (at_ l c).lt (at_ l ((c - 1) / 2)) = false
theorem heap_min {l : List Ent} {n : Nat} (h : HeapN l n) : ∀ (k : Nat), k < n → (at_ l k).lt (at_ l 0) = false := by
  intro k
  induction k using Nat.strongRecOn with
  | _ k ih =>
    intro hk
    by_cases h0 : k = 0
    · subst h0; exact Ent.lt_irrefl _
    · exact Ent.le_trans (ih ((k - 1) / 2) (by omega) (by omega)) (h k (by omega) hk)

theorem up_law (f : Nat) : ∀ (l : List Ent) (j : Nat), j < l.length → j ≤ f → (∀ c, 0 < c → c < l.length → c ≠ j → (at_ l c).lt (at_ l ((c - 1) / 2)) = false) →
    (∀ c, 0 < c → c < l.length → (c - 1) / 2 = j → 0 < j → (at_ l c).lt (at_ l ((j - 1) / 2)) = false) →
    HeapN (upF f l j) l.length ∧ (upF f l j).Perm l := by
  induction f with
  | zero =>
    intro l j hj hf h1 _
    obtain rfl : j = 0 := by omega
    exact ⟨fun c hc hl => h1 c hc hl (by omega), List.Perm.refl _⟩
  | succ f ih =>
    intro l j hj hf h1 h2
    unfold upF
    split
    · rename_i hlt
      obtain ⟨h0, hlt⟩ := hlt
      have hp : (j - 1) / 2 < l.length := by omega
      have hat := swapL_at hp hj
      have hperm := swapL_perm hp hj
      have := ih (swapL l ((j - 1) / 2) j) ((j - 1) / 2) (by rw [swapL_len]; exact hp) (by omega) (by
        intro c hc hcl hne
        rw [swapL_len] at hcl
        rw [hat, hat]
        by_cases e1 : c = j
        · subst e1
          rw [if_pos rfl, if_neg (by omega), if_pos rfl]
          exact Ent.lt_asymm hlt
        · rw [if_neg e1, if_neg hne]
          by_cases e2 : (c - 1) / 2 = j
          · rw [if_pos e2]
            exact h2 c hc hcl e2 (by omega)
          · rw [if_neg e2]
            by_cases e3 : (c - 1) / 2 = (j - 1) / 2
            · rw [if_pos e3]
              have := h1 c hc hcl e1
              rw [e3] at this
              exact Ent.le_trans (Ent.lt_asymm hlt) this
            · rw [if_neg e3]
              exact h1 c hc hcl e1) (by
        intro c hc hcl hpar h00
        rw [swapL_len] at hcl
        rw [hat, hat]
        rw [if_neg (show ¬ ((j - 1) / 2 - 1) / 2 = j by omega), if_neg (show ¬ ((j - 1) / 2 - 1) / 2 = (j - 1) / 2 by omega)]
        have hpp := h1 ((j - 1) / 2) h00 hp (by omega)
        by_cases e1 : c = j
        · rw [if_pos e1]; exact hpp
        · rw [if_neg e1, if_neg (by omega)]
          have := h1 c hc hcl e1
          rw [hpar] at this
          exact Ent.le_trans hpp this)
      rw [swapL_len] at this
      exact ⟨this.1, this.2.trans hperm⟩
    · rename_i hlt
      refine ⟨fun c hc hl => ?_, List.Perm.refl _⟩
      by_cases e1 : c = j
      · subst e1
        have h0 : c ≠ 0 := by omega
        simpa [h0] using hlt
      · exact h1 c hc hl e1

theorem down_law (f : Nat) : ∀ (l : List Ent) (i n : Nat), n ≤ l.length → n ≤ f + i → (∀ c, 0 < c → c < n → (c - 1) / 2 ≠ i → (at_ l c).lt (at_ l ((c - 1) / 2)) = false) →
    (∀ c, 0 < c → c < n → (c - 1) / 2 = i → 0 < i → (at_ l c).lt (at_ l ((i - 1) / 2)) = false) →
    HeapN (downF f l i n) n ∧ (downF f l i n).Perm l ∧ ∀ k, n ≤ k → at_ (downF f l i n) k = at_ l k := by
  induction f with
  | zero =>
    intro l i n hn hf h1 _
    exact ⟨fun c hc hl => h1 c hc hl (by omega), List.Perm.refl _, fun _ _ => rfl⟩
  | succ f ih =>
    intro l i n hn hf h1 h2
    unfold downF
    split
    · exact ⟨fun c hc hl => h1 c hc hl (by omega), List.Perm.refl _, fun _ _ => rfl⟩
    · rename_i hlast
      obtain ⟨j, hj⟩ : ∃ j, j = (if 2 * i + 2 < n ∧ (at_ l (2 * i + 2)).lt (at_ l (2 * i + 1)) = true then 2 * i + 2 else 2 * i + 1) := ⟨_, rfl⟩
      have hjn : j < n ∧ (j - 1) / 2 = i ∧ i < j ∧ ∀ c, 0 < c → c < n → (c - 1) / 2 = i → (at_ l c).lt (at_ l j) = false := by
        split at hj
        · rename_i hc
          subst hj
          refine ⟨hc.1, by omega, by omega, fun c h0 hcn hp => ?_⟩
          by_cases e : c = 2 * i + 2
          · rw [e]; exact Ent.lt_irrefl _
          · obtain rfl : c = 2 * i + 1 := by omega
            exact Ent.lt_asymm hc.2
        · rename_i hc
          subst hj
          refine ⟨by omega, by omega, by omega, fun c h0 hcn hp => ?_⟩
          by_cases e : c = 2 * i + 1
          · rw [e]; exact Ent.lt_irrefl _
          · obtain rfl : c = 2 * i + 2 := by omega
            simpa [hcn] using hc
      rw [← hj]
      obtain ⟨hjn, hjp, hij, hmin⟩ := hjn
      split
      · rename_i hlt
        have hil : i < l.length := by omega
        have hjl : j < l.length := by omega
        have hat := swapL_at hil hjl
        have hperm := swapL_perm hil hjl
        have := ih (swapL l i j) j n (by rw [swapL_len]; exact hn) (by omega) (by
          intro c hc hcn hne
          rw [hat, hat, if_neg hne]
          by_cases e1 : c = j
          · subst e1
            rw [if_pos rfl, if_pos hjp]
            exact Ent.lt_asymm hlt
          · rw [if_neg e1]
            by_cases e2 : c = i
            · subst e2
              rw [if_pos rfl, if_neg (by omega)]
              exact h2 j (by omega) hjn hjp hc
            · rw [if_neg e2]
              by_cases e3 : (c - 1) / 2 = i
              · rw [if_pos e3]; exact hmin c hc hcn e3
              · rw [if_neg e3]; exact h1 c hc hcn e3) (by
          intro c hc hcn hpar _
          rw [hat, hat, hjp, if_neg (by omega), if_neg (by omega), if_neg (by omega), if_pos rfl]
          have := h1 c hc hcn (by omega)
          rwa [hpar] at this)
        refine ⟨this.1, this.2.1.trans hperm, fun k hk => ?_⟩
        rw [this.2.2 k hk, hat, if_neg (by omega), if_neg (by omega)]
      · rename_i hlt
        refine ⟨fun c hc hcn => ?_, List.Perm.refl _, fun _ _ => rfl⟩
        by_cases e : (c - 1) / 2 = i
        · have h3 := hmin c hc hcn e
          rw [e]
          exact Ent.le_trans (by simpa using hlt) h3
        · exact h1 c hc hcn e

/-- What a queue holds: a heap, as a row in order. -/
def Held (es hs : List Ent) : Prop := HeapN es es.length ∧ es.Perm hs ∧ Srt hs
theorem Held.nil : Held [] [] := ⟨fun c _ h => by simp at h, List.Perm.refl _, List.Pairwise.nil⟩
theorem Held.len {es hs : List Ent} (h : Held es hs) : es.length = hs.length := h.2.1.length_eq
theorem Held.push {es hs : List Ent} (h : Held es hs) (e : Ent) : Held (upF es.length (es ++ [e]) es.length) (put hs e) := by
  have hat : ∀ c, c < es.length → at_ (es ++ [e]) c = at_ es c := fun c hc => by unfold at_; rw [List.getElem?_append_left hc]
  have h1 := up_law es.length (es ++ [e]) es.length (by simp) (Nat.le_refl _) (fun c hc hcl hne => by
    simp at hcl
    rw [hat c (by omega), hat _ (by omega)]
    exact h.1 c hc (by omega)) (fun c hc hcl hp h0 => by simp at hcl; omega)
  refine ⟨fun c hc hl => h1.1 c hc (by rw [← h1.2.length_eq]; exact hl), ?_, put_srt h.2.2 e⟩
  refine h1.2.trans ((List.perm_append_comm).trans ?_)
  exact (List.Perm.cons e h.2.1).trans (put_perm hs e).symm
theorem Held.top {es : List Ent} {x : Ent} {hs : List Ent} (h : Held es (x :: hs)) : at_ es 0 = x := by
  have hl := h.len
  simp at hl
  have h0 : at_ es 0 ∈ es := by rw [at_eq (by omega)]; exact List.getElem_mem _
  obtain ⟨k, hk, hkx⟩ := List.getElem_of_mem (h.2.1.mem_iff.2 (List.mem_cons_self ..))
  have h1 := heap_min h.1 k hk
  rw [at_eq hk, hkx] at h1
  rcases List.mem_cons.1 (h.2.1.mem_iff.1 h0) with h2 | h2
  · exact h2
  · exact (Ent.le_antisymm h1 ((List.pairwise_cons.1 h.2.2).1 _ h2))
theorem Held.pop {es : List Ent} {x : Ent} {hs : List Ent} (h : Held es (x :: hs)) :
    at_ (downF (es.length - 1) (swapL es 0 (es.length - 1)) 0 (es.length - 1)) (es.length - 1) = x ∧
      Held (downF (es.length - 1) (swapL es 0 (es.length - 1)) 0 (es.length - 1)).dropLast hs := by
  have hl := h.len
  simp at hl
  have hat := swapL_at (l := es) (i := 0) (j := es.length - 1) (by omega) (by omega)
  have hd := down_law (es.length - 1) (swapL es 0 (es.length - 1)) 0 (es.length - 1) (by rw [swapL_len]; omega) (by omega) (fun c hc hcn hne => by
    rw [hat, hat, if_neg (by omega), if_neg (by omega), if_neg (by omega), if_neg (by omega)]
    exact h.1 c hc (by omega)) (fun c _ _ _ h0 => by omega)
  obtain ⟨h1, h2, h3⟩ := hd
  have hlen := h2.length_eq
  rw [swapL_len] at hlen
  have hx : at_ (downF (es.length - 1) (swapL es 0 (es.length - 1)) 0 (es.length - 1)) (es.length - 1) = x := by
    rw [h3 _ (Nat.le_refl _), hat, if_pos rfl]
    exact h.top
  refine ⟨hx, ?_⟩
  generalize downF (es.length - 1) (swapL es 0 (es.length - 1)) 0 (es.length - 1) = r at *
  have hperm : r.Perm (x :: hs) := (h2.trans (swapL_perm (by omega) (by omega))).trans h.2.1
  refine ⟨fun c hc hcl => ?_, ?_, (List.pairwise_cons.1 h.2.2).2⟩
  · rw [List.length_dropLast] at hcl
    have e : ∀ c, c < r.length - 1 → at_ r.dropLast c = at_ r c := fun c hc => by
      unfold at_
      rw [List.getElem?_dropLast, if_pos hc]
    rw [e c hcl, e _ (by omega)]
    exact h1 c hc (by omega)
  · have hne : r ≠ [] := by intro h0; rw [h0] at hlen; simp at hlen; omega
    have hsplit := List.dropLast_concat_getLast hne
    have hlast : r.getLast hne = x := by
      rw [← hx, at_eq (by omega), List.getLast_eq_getElem]
      congr 1
      omega
    rw [hlast] at hsplit
    rw [← hsplit] at hperm
    exact List.Perm.cons_inv ((List.perm_append_comm (l₁ := [x]) (l₂ := r.dropLast)).trans hperm)

def sort (l : List Ent) : List Ent := l.foldl put []
theorem foldl_put (l : List Ent) : ∀ acc : List Ent, Srt acc → Srt (l.foldl put acc) ∧ (l.foldl put acc).Perm (l ++ acc) := by
  induction l with
  | nil => intro acc h; exact ⟨h, List.Perm.refl _⟩
  | cons x l ih =>
    intro acc h
    obtain ⟨h1, h2⟩ := ih (put acc x) (put_srt h x)
    refine ⟨h1, h2.trans ?_⟩
    refine (List.Perm.append_left l (put_perm acc x)).trans ?_
    exact List.perm_middle
theorem sort_srt (l : List Ent) : Srt (sort l) := (foldl_put l [] List.Pairwise.nil).1
theorem sort_perm (l : List Ent) : (sort l).Perm l := by
  have h := (foldl_put l [] List.Pairwise.nil).2
  rw [List.append_nil] at h
  exact h
theorem sort_of_perm {l m : List Ent} (h : l.Perm m) : sort l = sort m :=
  srt_unique (sort_srt l) (sort_srt m) ((sort_perm l).trans (h.trans (sort_perm m).symm))
end Go.Proofs.Ytmjnffjacgjfmaa
