/- What is done with a roster is what the document wants. Plain law. -/
import Derived.Test.YthognfmmjkmjnaaSj
namespace Go.Proofs.Ythognfmmjkmjnaa
set_option linter.all false
open Go.RowKit AM

def rises (xs : List Me) : Prop := xs.Pairwise fun x y => x.user < y.user
structure Agr (l xs : List Me) : Prop where
  perm : l.Perm xs
  rises : rises xs
  chief : ∃ y ∈ xs, y.user = 0
def insM (x : Me) : List Me → List Me
  | [] => [x]
  | y :: ys => if x.user < y.user then x :: y :: ys else y :: insM x ys
theorem foldl_done (x : Me) : ∀ (ys o : List Me), ys.foldl (putS x) (o, true) = (o ++ ys, true)
  | [], o => by simp
  | y :: ys, o => by
    have : putS x (o, true) y = (o ++ [y], true) := by simp [putS]
    rw [List.foldl_cons, this, foldl_done x ys]
    simp
theorem foldl_ins (x : Me) : ∀ (ys o : List Me), (if (ys.foldl (putS x) (o, false)).2 then (ys.foldl (putS x) (o, false)).1 else (ys.foldl (putS x) (o, false)).1 ++ [x]) = o ++ insM x ys
  | [], o => by simp [insM]
  | y :: ys, o => by
    by_cases h : x.user < y.user
    · have : putS x (o, false) y = (o ++ [x, y], true) := by simp [putS, h]
      rw [List.foldl_cons, this, foldl_done]
      simp [insM, h]
    · have : putS x (o, false) y = (o ++ [y], false) := by simp [putS, h]
      rw [List.foldl_cons, this, foldl_ins x ys]
      simp [insM, h]
theorem putR_ins (xs : List Me) (x : Me) : putR xs x = insM x (wo xs x.user) := by
  have := foldl_ins x (wo xs x.user) []
  rw [List.nil_append] at this
  rw [← this]
  unfold putR putG
  simp only []
theorem ins_perm (x : Me) : ∀ ys : List Me, (insM x ys).Perm (x :: ys)
  | [] => .refl _
  | y :: ys => by
    unfold insM
    split
    · exact .refl _
    · exact ((ins_perm x ys).cons y).trans (.swap x y ys)
theorem ins_rises (x : Me) : ∀ {ys : List Me}, rises ys → (∀ y ∈ ys, y.user ≠ x.user) → rises (insM x ys)
  | [], _, _ => by simp [insM, rises]
  | y :: ys, h, hn => by
    have hy := List.pairwise_cons.1 h
    unfold insM
    split
    · rename_i hl
      refine List.pairwise_cons.2 ⟨fun z hz => ?_, h⟩
      rcases List.mem_cons.1 hz with rfl | hz
      · exact hl
      · exact Int.lt_trans hl (hy.1 z hz)
    · rename_i hl
      refine List.pairwise_cons.2 ⟨fun z hz => ?_, ins_rises x hy.2 fun z hz => hn z (List.mem_cons_of_mem _ hz)⟩
      rcases List.mem_cons.1 ((ins_perm x ys).mem_iff.1 hz) with rfl | hz
      · have := hn y (List.mem_cons_self ..)
        omega
      · exact hy.1 z hz
theorem at_rises {k : Int} : ∀ {xs : List Me}, rises xs → (atK k xs).length ≤ 1
  | [], _ => by simp [atK]
  | x :: xs, h => by
    have hx := List.pairwise_cons.1 h
    rw [atK_cons]
    split
    · rename_i e
      have : atK k xs = [] := by
        unfold atK
        rw [List.filter_eq_nil_iff]
        intro y hy
        have := hx.1 y hy
        simp
        omega
      simp [this]
    · exact at_rises hx.2
theorem Agr.at' {l xs : List Me} (h : Agr l xs) (k : Int) : atK k l = atK k xs := by
  have hp : (atK k l).Perm (atK k xs) := h.perm.filter _
  have h1 := at_rises (k := k) h.rises
  rcases hx : atK k xs with _ | ⟨y, t⟩
  · rw [hx] at hp
    exact hp.eq_nil
  · rw [hx] at hp h1
    have : t = [] := by
      cases t with
      | nil => rfl
      | cons => simp at h1
    subst this
    exact List.perm_singleton.1 hp
theorem Agr.find {l xs : List Me} (h : Agr l xs) (k : Int) : findR l k = findR xs k := by rw [find_at, find_at, h.at']
theorem find_user {xs : List Me} {k : Int} {x : Me} (h : findR xs k = (x, true)) : x.user = k := by
  unfold findR at h
  rcases mf_view (k := k) xs with ⟨h1, h2⟩ | ⟨pre, y, post, rfl, h1, h2, h3, h4⟩
  · rw [h1] at h; cases h
  · rw [h1] at h
    cases h
    exact h2
theorem wo_perm {k : Int} (xs : List Me) : xs.Perm (atK k xs ++ wo xs k) := by
  unfold atK wo
  exact (List.filter_append_perm (fun x : Me => decide (x.user = k)) xs).symm
theorem Agr.ne {l xs : List Me} (h : Agr l xs) (j : Int) (hj : j ≠ 0) : wo xs j ≠ [] := by
  obtain ⟨y, hy, h0⟩ := h.chief
  intro e
  have : y ∈ wo xs j := List.mem_filter.2 ⟨hy, by simp [h0]; omega⟩
  rw [e] at this
  cases this
theorem wo_rises {xs : List Me} (h : rises xs) (k : Int) : rises (wo xs k) := List.Pairwise.filter _ h
theorem put_ok {xs : List Me} (h : rises xs) (x : Me) : rises (putR xs x) ∧ (putR xs x).Perm (x :: wo xs x.user) := by
  rw [putR_ins]
  exact ⟨ins_rises x (wo_rises h _) fun y hy => by have := (List.mem_filter.1 hy).2; simpa using this, ins_perm x _⟩
theorem Agr.ok {l xs : List Me} (h : Agr l xs) (a : Deed) : Agr (doesR l a).1 (wantsR xs a).1 ∧ (doesR l a).2 = (wantsR xs a).2 := by
  have hat := h.at' a.m.user
  have hfind := find_at xs a.m.user
  have keepC : ∀ {x : Me}, atK a.m.user xs = [x] → x.user = a.m.user → ∀ y : Me, y.user = a.m.user → ∀ zs : List Me, zs.Perm (y :: wo xs a.m.user) → ∃ w ∈ zs, w.user = 0 := fun {x} hx hu y hy zs hz => by
    obtain ⟨w, hw, h0⟩ := h.chief
    have hw' : w ∈ atK a.m.user xs ++ wo xs a.m.user := (wo_perm xs).mem_iff.1 hw
    rw [hx] at hw'
    rcases List.mem_append.1 hw' with hw' | hw'
    · have : w = x := by simpa using hw'
      subst this
      exact ⟨y, hz.mem_iff.2 (List.mem_cons_self ..), by rw [hy, ← hu, h0]⟩
    · exact ⟨w, hz.mem_iff.2 (List.mem_cons_of_mem _ hw'), h0⟩
  have turnOk : ∀ (f : Me → Me × Int), (∀ x, (f x).1.user = x.user) → ∀ {x : Me}, atK a.m.user xs = [x] → Agr (turnR f l a.m.user).1 (putR xs (f x).1) ∧ (turnR f l a.m.user).2 = (f x).2 := fun f hf {x} hx => by
    rcases mf_view (k := a.m.user) l with ⟨h1, h2⟩ | ⟨pre, y, post, hl, h1, h2, h3, h4⟩
    · rw [hat, hx] at h2; cases h2
    · rw [hat, hx] at h4
      obtain ⟨rfl, h5⟩ := List.cons.inj h4
      have e : turnR f l a.m.user = (pre ++ (f x).1 :: post, (f x).2) := by
        unfold turnR
        rw [h1, hl]
        simp only [set_mid]
      rw [e]
      have hu : (f x).1.user = a.m.user := (hf x).trans h2
      obtain ⟨p1, p2⟩ := put_ok h.rises (f x).1
      rw [hu] at p2
      refine ⟨⟨?_, p1, keepC hx h2 _ hu _ p2⟩, rfl⟩
      refine List.Perm.trans ?_ p2.symm
      have q1 : (x :: (pre ++ post)).Perm (x :: wo xs a.m.user) := by
        have hp := h.perm
        rw [hl] at hp
        have := (List.perm_middle.symm.trans hp).trans (wo_perm (k := a.m.user) xs)
        rw [hx] at this
        exact this
      exact List.perm_middle.trans (q1.cons_inv.cons _)
  have turnNone : ∀ (f : Me → Me × Int), atK a.m.user xs = [] → turnR f l a.m.user = (l, 21) := fun f hx => by
    rcases mf_view (k := a.m.user) l with ⟨h1, h2⟩ | ⟨pre, y, post, hl, h1, h2, h3, h4⟩
    · unfold turnR; rw [h1]
    · rw [hat, hx] at h4; cases h4
  have turnSame : ∀ (f : Me → Me × Int), ∀ {x : Me}, atK a.m.user xs = [x] → (f x).1 = x → turnR f l a.m.user = (l, (f x).2) := fun f {x} hx hf => by
    rcases mf_view (k := a.m.user) l with ⟨h1, h2⟩ | ⟨pre, y, post, hl, h1, h2, h3, h4⟩
    · rw [hat, hx] at h2; cases h2
    · rw [hat, hx] at h4
      obtain ⟨rfl, h5⟩ := List.cons.inj h4
      unfold turnR
      rw [h1, hl]
      simp only [set_mid, hf]
  have one : atK a.m.user xs = [] ∨ ∃ x, atK a.m.user xs = [x] := by
    have := at_rises (k := a.m.user) h.rises
    rcases hx : atK a.m.user xs with _ | ⟨x, t⟩
    · exact .inl rfl
    · rw [hx] at this
      cases t with
      | nil => exact .inr ⟨x, rfl⟩
      | cons => simp at this
  unfold doesR wantsR spendF
  by_cases k0 : a.kind = 0
  · rw [if_pos k0, if_pos k0]
    unfold enrolR has
    by_cases hr : a.m.right = true
    rotate_left
    · simp only [if_neg hr]; exact ⟨h, by first | rfl | trivial⟩
    rw [if_pos hr, if_pos hr]
    rcases one with hx | ⟨x, hx⟩
    · rw [hx] at hfind
      have hm : mfindMe a.m.user l 0 = none := mf_none.2 (by rw [hat, hx])
      rw [hfind, hm]
      simp only [Option.isSome_none, Bool.false_eq_true, if_false]
      have hwo : wo xs a.m.user = xs := by
        unfold wo
        rw [List.filter_eq_self]
        intro y hy
        have : y ∉ atK a.m.user xs := by rw [hx]; simp
        unfold atK at this
        simp [hy] at this
        simp [this]
      obtain ⟨p1, p2⟩ := put_ok h.rises a.m
      rw [hwo] at p2
      obtain ⟨w, hw, h0⟩ := h.chief
      exact ⟨⟨((List.perm_append_comm (l₁ := l) (l₂ := [a.m])).trans (h.perm.cons _)).trans p2.symm, p1, w, p2.mem_iff.2 (List.mem_cons_of_mem _ hw), h0⟩, trivial⟩
    · rw [hx] at hfind
      have hm : (mfindMe a.m.user l 0).isSome = true := by
        cases hmm : mfindMe a.m.user l 0 with
        | some => rfl
        | none => rw [mf_none, hat, hx] at hmm; cases hmm
      rw [hfind, hm]
      exact ⟨h, by first | rfl | trivial⟩
  rw [if_neg k0, if_neg k0]
  by_cases k1 : a.kind = 1
  · rw [if_pos k1, if_pos k1]
    unfold dropR
    by_cases u0 : a.m.user = 0
    · rw [if_pos u0, if_pos u0]; exact ⟨h, by first | rfl | trivial⟩
    rw [if_neg u0, if_neg u0]
    rcases mf_view (k := a.m.user) l with ⟨h1, h2⟩ | ⟨pre, y, post, hl, h1, h2, h3, h4⟩
    · rw [hat] at h2
      rw [h2] at hfind
      rw [hfind, h1]
      exact ⟨h, by first | rfl | trivial⟩
    · rcases one with hx | ⟨x, hx⟩
      · rw [hat, hx] at h4; cases h4
      rw [hat, hx] at h4
      obtain ⟨rfl, h5⟩ := List.cons.inj h4
      rw [hx] at hfind
      rw [hfind, h1, hl]
      simp only [erase_mid, if_true]
      have q1 : (x :: (pre ++ post)).Perm (x :: wo xs a.m.user) := by
        have hp := h.perm
        rw [hl] at hp
        have := (List.perm_middle.symm.trans hp).trans (wo_perm (k := a.m.user) xs)
        rw [hx] at this
        exact this
      obtain ⟨w, hw, h0⟩ := h.chief
      exact ⟨⟨q1.cons_inv, wo_rises h.rises _, w, List.mem_filter.2 ⟨hw, by simp [h0]; omega⟩, h0⟩, trivial⟩
  rw [if_neg k1, if_neg k1]
  by_cases k2 : a.kind = 2
  · rw [if_pos k2, if_pos k2]
    rcases one with hx | ⟨x, hx⟩
    · rw [hx] at hfind; rw [hfind, turnNone _ hx]; exact ⟨h, by first | rfl | trivial⟩
    rw [hx] at hfind
    rw [hfind]
    simp only [if_true]
    by_cases hc : a.m.user = 0 ∨ a.pk < 1 ∨ a.pk > 65535
    · rw [if_pos hc, turnSame _ hx (by simp [profR, show a.m.user = 0 ∨ a.pk < 1 ∨ 65535 < a.pk from hc])]
      exact ⟨h, by simp [profR, show a.m.user = 0 ∨ a.pk < 1 ∨ 65535 < a.pk from hc]⟩
    · rw [if_neg hc]
      have e : profR a.m.user a.pk a.pa x = ({ x with kk := a.pk, area := a.pa }, 0) := by unfold profR; rw [if_neg (show ¬(a.m.user = 0 ∨ a.pk < 1 ∨ 65535 < a.pk) from hc)]
      have := turnOk (profR a.m.user a.pk a.pa) (profR_user _ _ _) hx
      rw [e] at this
      exact this
  rw [if_neg k2, if_neg k2]
  by_cases k3 : a.kind = 3
  · rw [if_pos k3, if_pos k3]
    rcases one with hx | ⟨x, hx⟩
    · rw [hx] at hfind; rw [hfind, turnNone _ hx]; exact ⟨h, by first | rfl | trivial⟩
    rw [hx] at hfind
    rw [hfind]
    simp only [if_true]
    by_cases hc : a.m.user = 0 ∨ a.n < 0 ∨ a.n > 65535
    · rw [if_pos hc, turnSame _ hx (by unfold quotaR; rw [if_pos hc])]
      exact ⟨h, by unfold quotaR; rw [if_pos hc]⟩
    · rw [if_neg hc]
      have e : quotaR a.m.user a.n x = ({ x with quota := a.n }, 0) := by unfold quotaR; rw [if_neg hc]
      have := turnOk (quotaR a.m.user a.n) (quotaR_user _ _) hx
      rw [e] at this
      exact this
  rw [if_neg k3, if_neg k3]
  rcases one with hx | ⟨x, hx⟩
  · rw [hx] at hfind; rw [hfind, turnNone _ hx]; exact ⟨h, by first | rfl | trivial⟩
  rw [hx] at hfind
  rw [hfind]
  simp only [if_true]
  by_cases u0 : a.m.user = 0
  · rw [if_pos u0, turnSame _ hx (by unfold spendR; rw [if_pos u0])]
    exact ⟨h, by unfold spendR; rw [if_pos u0]⟩
  rw [if_neg u0]
  by_cases q0 : x.quota = 0
  · rw [if_pos q0, turnSame _ hx (by unfold spendR; rw [if_neg u0, if_pos q0])]
    exact ⟨h, by unfold spendR; rw [if_neg u0, if_pos q0]⟩
  rw [if_neg q0]
  have e : spendR a.m.user x = ({ x with quota := IntKind.i64.wrap (x.quota - 1) }, 0) := by unfold spendR; rw [if_neg u0, if_neg q0]
  have := turnOk (spendR a.m.user) (spendR_user _) hx
  rw [e] at this
  exact this
theorem Agr.all {l xs : List Me} (h : Agr l xs) : allR l = xs := by
  have e1 : sorted (l.map (·.user)) = xs.map (·.user) := by
    rw [sorted_perm (h.perm.map (·.user))]
    refine List.Perm.eq_of_pairwise (le := fun x y : Int => x ≤ y) (fun x y _ _ h1 h2 => Int.le_antisymm h1 h2) (sorted_rises _) ?_ (List.mergeSort_perm _ _)
    rw [List.pairwise_map]
    exact List.Pairwise.imp (fun h => Int.le_of_lt h) h.rises
  unfold allR
  rw [e1, List.map_map]
  conv => rhs; rw [← List.map_id xs]
  refine List.map_congr_left fun x hx => ?_
  show (findR l x.user).1 = x
  rw [h.find, find_at]
  have h1 := at_rises (k := x.user) h.rises
  have h2 : x ∈ atK x.user xs := List.mem_filter.2 ⟨hx, by simp⟩
  rcases he : atK x.user xs with _ | ⟨y, t⟩
  · rw [he] at h2; cases h2
  · rw [he] at h1 h2
    cases t with
    | nil => exact (List.mem_singleton.1 h2).symm
    | cons => simp at h1
end Go.Proofs.Ythognfmmjkmjnaa
