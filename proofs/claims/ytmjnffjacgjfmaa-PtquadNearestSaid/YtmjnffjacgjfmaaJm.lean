/- A quadtree of points, plain: what stands at a node; a record is put in. -/
import Derived.Test.YtmjnffjacgjfmaaJa
import Derived.Test.YtmjnffjacgjfmaaHc
import Derived.Test.YtmjnffjacgjfmaaHa
namespace Go.Proofs.Ytmjnffjacgjfmaa
set_option linter.all false
open Go.RowKit AM
/-- A point is in a cell. -/
def Un (c : Ce) (p : Pt) : Prop := fits p = true ∧ underC c (cellOf p 16) = true
theorem kid_way {p : Pt} {c : Ce} (h : fits p = true) (h0 : 0 ≤ c.l) (hl : c.l < 16) : kidZ p c.l = wayOf c (cellOf p 16) := by
  have hr : rightL (c.l + 1) = true := by simp [rightL]; omega
  unfold kidZ wayOf
  rw [cell_above (by omega) (Int.le_refl _)]
  simp [ofR, hr, h]
theorem Un.child {c : Ce} {p : Pt} (h : Un c p) (h0 : 0 ≤ c.l) (hl : c.l < 16) : Un (childOf c (kidF p c.l)) p := by
  refine ⟨h.1, ?_⟩
  rw [kidF_eq, kid_way h.1 h0 hl]
  exact under_child h.2 (by rintro rfl; simp [cellOf] at hl)
theorem Un.of_child {c : Ce} {p : Pt} {i : Nat} (h0 : 0 ≤ c.l) (hl : c.l < 16) (hi : i < 4) (h : Un (childOf c i) p) : Un c p ∧ kidF p c.l = i := by
  obtain ⟨h1, _, h3⟩ := child_under (by omega) h.2
  refine ⟨⟨h.1, h1⟩, ?_⟩
  have := kid_way h.1 h0 hl
  rw [h3, ← kidF_eq] at this
  omega
theorem Un.box {c : Ce} {p : Pt} (hc : rightC c = true) : hasR (boxOf c) p = true ↔ Un c p := by
  have hb := box_right hc
  have hc' := rightC_iff.1 hc
  have hl : 0 ≤ c.l ∧ c.l ≤ 16 := hc'.1
  rw [hasR_iff]
  unfold Un
  rw [underC_iff, cell_above hl.2 (Int.le_refl _)]
  have hs : 0 < side c.l := two_pos _
  have hb' := rightR_iff.1 hb
  simp only [boxOf] at hb' ⊢
  have e : cellOf p c.l = c ↔ p.x / side c.l = c.x ∧ p.y / side c.l = c.y := by
    constructor
    · intro h
      exact ⟨congrArg Ce.x h, congrArg Ce.y h⟩
    · rintro ⟨h1, h2⟩
      unfold cellOf
      rw [h1, h2]
  have dv : ∀ x y : Int, (x / side c.l = y) ↔ (side c.l * y ≤ x ∧ x ≤ side c.l * y + side c.l - 1) := by
    intro x y
    constructor
    · rintro rfl
      have h1 := Int.emod_add_mul_ediv x (side c.l)
      have h2 := Int.emod_nonneg x (Int.ne_of_gt hs)
      have h3 := Int.emod_lt_of_pos x hs
      omega
    · rintro ⟨h1, h2⟩
      have h3 : x = side c.l * y + (x - side c.l * y) := by omega
      rw [h3, Int.add_comm, Int.add_mul_ediv_left _ _ (Int.ne_of_gt hs), Int.ediv_eq_zero_of_lt (by omega) (by omega)]
      omega
  rw [e, dv, dv]
  simp only [fits, inside, Bool.and_eq_true, decide_eq_true_eq]
  constructor
  · rintro ⟨_, h1, h2⟩
    exact ⟨⟨⟨by omega, by omega⟩, by omega, by omega⟩, by simp [cellOf]; omega, h1, h2⟩
  · rintro ⟨_, _, h1, h2⟩
    exact ⟨hb, h1, h2⟩
/-! ## What stands at a node -/
def kidsS (c : Ce) (S : List Pr) (i : Nat) : List Pr := S.filter fun r => decide (kidF r.at_ c.l = i)
def flat4 (J : Nat → List Nat) : List Nat := J 0 ++ J 1 ++ J 2 ++ J 3
def oth (J : Nat → List Nat) : Nat → List Nat
  | 0 => J 1 ++ J 2 ++ J 3
  | 1 => J 0 ++ J 2 ++ J 3
  | 2 => J 0 ++ J 1 ++ J 3
  | _ => J 0 ++ J 1 ++ J 2
def upd {α : Type} (J : Nat → α) (i : Nat) (x : α) : Nat → α := fun j => if j = i then x else J j
theorem upd_self {α : Type} {J : Nat → α} {i : Nat} {x : α} : upd J i x i = x := by simp [upd]
theorem upd_ne {α : Type} {J : Nat → α} {i j : Nat} {x : α} (h : j ≠ i) : upd J i x j = J j := by simp [upd, h]
theorem oth_upd {J : Nat → List Nat} {i : Nat} {x : List Nat} (hi : i < 4) : oth (upd J i x) i = oth J i := by
  rcases (show i = 0 ∨ i = 1 ∨ i = 2 ∨ i = 3 by omega) with rfl | rfl | rfl | rfl <;> simp [oth, upd]
theorem flat4_perm {J : Nat → List Nat} {i : Nat} (hi : i < 4) : (flat4 J).Perm (J i ++ oth J i) := by
  rcases (show i = 0 ∨ i = 1 ∨ i = 2 ∨ i = 3 by omega) with rfl | rfl | rfl | rfl <;> simp only [flat4, oth]
  · simp only [List.append_assoc]; exact List.Perm.refl _
  · refine List.perm_iff_count.2 fun x => ?_
    simp only [List.count_append]; omega
  · refine List.perm_iff_count.2 fun x => ?_
    simp only [List.count_append]; omega
  · refine List.perm_iff_count.2 fun x => ?_
    simp only [List.count_append]; omega
theorem mem_oth {J : Nat → List Nat} {i j x : Nat} (hi : i < 4) (hj : j < 4) (h : j ≠ i) (hx : x ∈ J j) : x ∈ oth J i := by
  rcases (show i = 0 ∨ i = 1 ∨ i = 2 ∨ i = 3 by omega) with rfl | rfl | rfl | rfl <;>
    rcases (show j = 0 ∨ j = 1 ∨ j = 2 ∨ j = 3 by omega) with rfl | rfl | rfl | rfl <;> first | exact absurd rfl h | simp [oth, hx]
theorem mem_flat4 {J : Nat → List Nat} {i x : Nat} (hi : i < 4) (hx : x ∈ J i) : x ∈ flat4 J := (flat4_perm hi).mem_iff.2 (List.mem_append.2 (.inl hx))
def LfR (A : List Qn) (a : Nat) (c : Ce) (S : List Pr) (I : List Nat) : Prop := ∃ q, A[a]? = some q ∧ q.c = c ∧ q.split = false ∧ q.l.Perm S ∧ q.many = S.length ∧ I = [a]
def SpR (R : Nat → Ce → List Pr → List Nat → Prop) (A : List Qn) (a : Nat) (c : Ce) (S : List Pr) (I : List Nat) : Prop :=
  ∃ (q : Qn) (J : Nat → List Nat) (k : Nat → Nat), A[a]? = some q ∧ q.c = c ∧ q.split = true ∧ q.l = [] ∧ q.many = S.length ∧ (∀ i, i < 4 → q.kid i = (k i : Int)) ∧ (∀ i, i < 4 → R (k i) (childOf c i) (kidsS c S i) (J i)) ∧ I = a :: flat4 J
def Rep (b : Nat) (A : List Qn) : Nat → Nat → Ce → List Pr → List Nat → Prop
  | 0 => LfR A
  | n + 1 => fun a c S I => (S.length ≤ b ∧ LfR A a c S I) ∨ (b < S.length ∧ SpR (Rep b A n) A a c S I)
theorem LfR.congr {A A' : List Qn} {a : Nat} {c : Ce} {S S' : List Pr} {I : List Nat} (h : LfR A a c S I) (hA : ∀ x ∈ I, A'[x]? = A[x]?) (hS : S.Perm S') : LfR A' a c S' I := by
  obtain ⟨q, h1, h2, h3, h4, h5, rfl⟩ := h
  exact ⟨q, by rw [hA a (by simp)]; exact h1, h2, h3, h4.trans hS, by rw [h5, hS.length_eq], rfl⟩
theorem SpR.congr {R R' : Nat → Ce → List Pr → List Nat → Prop} {A A' : List Qn} {a : Nat} {c : Ce} {S S' : List Pr} {I : List Nat} (h : SpR R A a c S I) (hA : ∀ x ∈ I, A'[x]? = A[x]?) (hS : S.Perm S') (hR : ∀ a c S S' I', (∀ x ∈ I', x ∈ I) → S.Perm S' → R a c S I' → R' a c S' I') : SpR R' A' a c S' I := by
  obtain ⟨q, J, k, h1, h2, h3, h4, h5, h6, h7, rfl⟩ := h
  refine ⟨q, J, k, by rw [hA a (by simp)]; exact h1, h2, h3, h4, by rw [h5, hS.length_eq], h6, fun i hi => ?_, rfl⟩
  exact hR _ _ _ _ _ (fun x hx => List.mem_cons_of_mem _ (mem_flat4 hi hx)) (hS.filter _) (h7 i hi)
theorem Rep.congr {b : Nat} {A A' : List Qn} : ∀ {n a : Nat} {c : Ce} {S S' : List Pr} {I : List Nat}, Rep b A n a c S I → (∀ x ∈ I, A'[x]? = A[x]?) → S.Perm S' → Rep b A' n a c S' I
  | 0, a, c, S, S', I, h, hA, hS => LfR.congr h hA hS
  | n + 1, a, c, S, S', I, h, hA, hS => by
    rcases h with ⟨h1, h2⟩ | ⟨h1, h2⟩
    · exact .inl ⟨by rw [← hS.length_eq]; exact h1, h2.congr hA hS⟩
    · exact .inr ⟨by rw [← hS.length_eq]; exact h1, h2.congr hA hS fun a c S S' I' hI hS h => Rep.congr h (fun x hx => hA x (hI x hx)) hS⟩
theorem Rep.head {b : Nat} {A : List Qn} {n a : Nat} {c : Ce} {S : List Pr} {I : List Nat} (h : Rep b A n a c S I) : ∃ q J, A[a]? = some q ∧ q.c = c ∧ q.many = S.length ∧ I = a :: J := by
  cases n with
  | zero =>
    obtain ⟨q, h1, h2, h3, h4, h5, rfl⟩ := h
    exact ⟨q, [], h1, h2, h5, rfl⟩
  | succ n =>
    rcases h with ⟨_, q, h1, h2, h3, h4, h5, rfl⟩ | ⟨_, q, J, k, h1, h2, h3, h4, h5, h6, h7, rfl⟩
    · exact ⟨q, [], h1, h2, h5, rfl⟩
    · exact ⟨q, _, h1, h2, h5, rfl⟩
/-- How many nodes there can be. -/
def capN : Nat → Nat
  | 0 => 1
  | n + 1 => 1 + 4 * capN n
theorem capN_pos : ∀ n, 1 ≤ capN n
  | 0 => Nat.le_refl _
  | n + 1 => by unfold capN; omega
theorem SpR.len {R : Nat → Ce → List Pr → List Nat → Prop} {A : List Qn} {a m : Nat} {c : Ce} {S : List Pr} {I : List Nat} (h : SpR R A a c S I) (hR : ∀ a c S I, R a c S I → I.length ≤ m) : I.length ≤ 1 + 4 * m := by
  obtain ⟨q, J, k, h1, h2, h3, h4, h5, h6, h7, rfl⟩ := h
  have h0 := hR _ _ _ _ (h7 0 (by omega))
  have h1 := hR _ _ _ _ (h7 1 (by omega))
  have h2 := hR _ _ _ _ (h7 2 (by omega))
  have h3 := hR _ _ _ _ (h7 3 (by omega))
  simp [flat4]
  omega
theorem LfR.len {A : List Qn} {a : Nat} {c : Ce} {S : List Pr} {I : List Nat} (h : LfR A a c S I) : I.length = 1 := by
  obtain ⟨q, h1, h2, h3, h4, h5, rfl⟩ := h
  rfl
theorem Rep.len {b : Nat} {A : List Qn} : ∀ {n a : Nat} {c : Ce} {S : List Pr} {I : List Nat}, Rep b A n a c S I → I.length ≤ capN n
  | 0, _, _, _, _, h => Nat.le_of_eq (LfR.len h)
  | n + 1, _, _, _, _, h => by
    rcases h with ⟨_, h⟩ | ⟨_, h⟩
    · rw [h.len]; exact capN_pos _
    · exact h.len fun _ _ _ _ h => Rep.len h
/-- What records a node may stand for. -/
structure Ok (n : Nat) (c : Ce) (S : List Pr) : Prop where
  r : rightC c = true
  l : c.l + n = 16
  u : ∀ r ∈ S, Un c r.at_
  len : S.length ≤ 1000000
theorem Ok.kid {n : Nat} {c : Ce} {S : List Pr} (h : Ok (n + 1) c S) {i : Nat} (hi : i < 4) : Ok n (childOf c i) (kidsS c S i) := by
  have hl := h.l
  have h0 := (rightC_iff.1 h.r).1.1
  refine ⟨child_right h.r (by omega) (by omega), by simp [childOf]; omega, fun r hr => ?_, Nat.le_trans (List.length_filter_le _ _) h.len⟩
  obtain ⟨h1, h2⟩ := List.mem_filter.1 hr
  have h2 : kidF r.at_ c.l = i := by simpa using h2
  have := (h.u r h1).child h0 (by omega)
  rwa [h2] at this
theorem Ok.sub {n : Nat} {c : Ce} {S S' : List Pr} (h : Ok n c S) (hs : ∀ r ∈ S', r ∈ S) (hl : S'.length ≤ S.length) : Ok n c S' := ⟨h.r, h.l, fun r hr => h.u r (hs r hr), Nat.le_trans hl h.len⟩
theorem Ok.okN {n : Nat} {c : Ce} {S : List Pr} (h : Ok n c S) {q : Qn} (hc : q.c = c) (hm : q.many = S.length) (hl : q.l.length ≤ S.length) : okN q := by
  have := h.len
  exact ⟨by rw [hc]; exact h.r, by omega, by omega, by omega⟩
/-- Each place is used once, or free. -/
structure Fit (s : Ar) (I F : List Nat) : Prop where
  perm : (I ++ F ++ s.fr).Perm (List.range s.A.length)
  len : s.A.length ≤ big
theorem Fit.lt {s : Ar} {I F : List Nat} (h : Fit s I F) {x : Nat} (hx : x ∈ I ∨ x ∈ F ∨ x ∈ s.fr) : x < s.A.length := by
  have : x ∈ I ++ F ++ s.fr := by simpa using hx
  simpa using h.perm.mem_iff.1 this
theorem Fit.nodup {s : Ar} {I F : List Nat} (h : Fit s I F) : (I ++ F ++ s.fr).Nodup := h.perm.nodup_iff.2 List.nodup_range
theorem Fit.length {s : Ar} {I F : List Nat} (h : Fit s I F) : I.length + F.length + s.fr.length = s.A.length := by
  have := h.perm.length_eq
  simp at this
  omega
theorem Fit.to {s s' : Ar} {I F I' F' : List Nat} (h : Fit s I F) (hA : s'.A.length = s.A.length) (hp : (I' ++ F' ++ s'.fr).Perm (I ++ F ++ s.fr)) : Fit s' I' F' := ⟨by rw [hA]; exact hp.trans h.perm, by rw [hA]; exact h.len⟩
def Same (F : List Nat) (s s' : Ar) : Prop := ∀ x ∈ F, s'.A[x]? = s.A[x]?
theorem Same.trans {F : List Nat} {s s1 s2 : Ar} (h : Same F s s1) (k : Same F s1 s2) : Same F s s2 := fun x hx => (k x hx).trans (h x hx)
theorem leaf_ok {s : Ar} {I F : List Nat} (c : Ce) (h : Fit s I F) (hb : I.length + F.length < big) : ∃ s' k, leafF s c = some (s', k) ∧ s'.A[k]? = some (leafN c) ∧ Same (I ++ F) s s' ∧ k ∉ I ++ F ∧ Fit s' (I ++ [k]) F := by
  have hlen := h.length
  have hbig := h.len
  unfold leafF
  cases hg : s.fr.getLast? with
  | some a =>
    have hne : s.fr ≠ [] := by rintro e; rw [e] at hg; cases hg
    have hla : a = s.fr.getLast hne := by rw [List.getLast?_eq_some_getLast hne] at hg; exact (Option.some.inj hg).symm
    have hfr : s.fr = s.fr.dropLast ++ [a] := by rw [hla]; exact (List.dropLast_concat_getLast hne).symm
    have ham : a ∈ s.fr := by rw [hla]; exact List.getLast_mem hne
    have hal := h.lt (.inr (.inr ham))
    have hnd := h.nodup
    have hna : a ∉ I ++ F := fun e => (List.nodup_append.1 hnd).2.2 a e a ham rfl
    simp only [hal, true_and]
    rw [if_pos (by omega)]
    refine ⟨_, _, rfl, List.getElem?_set_self hal, fun x hx => List.getElem?_set_ne (by rintro rfl; exact hna hx), hna, h.to (by simp) ?_⟩
    simp only
    refine List.perm_iff_count.2 fun x => ?_
    have := congrArg (List.count x) hfr
    simp only [List.count_append] at this ⊢
    omega
  | none =>
    have hfr : s.fr = [] := by simpa using hg
    rw [hfr] at hlen
    simp at hlen
    simp only
    rw [if_pos (by omega)]
    refine ⟨_, _, rfl, by simp, fun x hx => ?_, fun e => ?_, ⟨?_, by simp; omega⟩⟩
    · have := h.lt (x := x) (by rcases List.mem_append.1 hx with h | h; exact .inl h; exact .inr (.inl h))
      simp only
      rw [List.getElem?_append_left this]
    · have := h.lt (x := s.A.length) (by rcases List.mem_append.1 e with h | h; exact .inl h; exact .inr (.inl h))
      omega
    · have hp := h.perm
      rw [hfr] at hp
      simp only [List.append_nil, List.length_append, List.length_cons, List.length_nil] at hp ⊢
      rw [List.range_succ]
      refine List.perm_iff_count.2 fun x => ?_
      have := hp.count_eq x
      simp only [List.count_append] at this ⊢
      omega
theorem toA_nat (k : Nat) : toA (k : Int) = some k := by simp [toA]
/-- Four places. -/
def KidsI (c : Ce) (s : Ar) (a : Nat) (F : List Nat) (i : Nat) (s' : Ar) (ks : List Nat) : Prop := ks.length = i ∧ (∀ j, j < i → ∃ k, ks[j]? = some k ∧ s'.A[k]? = some (leafN (childR c j).1)) ∧ Same (a :: F) s s' ∧ Fit s' (a :: ks) F
theorem kids_ok {c : Ce} {s : Ar} {a : Nat} {F : List Nat} (h : Fit s [a] F) (hb : F.length + 5 ≤ big) : ∀ i, i ≤ 4 → ∃ s' ks, kidsF c s i = some (s', ks) ∧ KidsI c s a F i s' ks := by
  intro i
  induction i with
  | zero => intro _; exact ⟨s, [], rfl, rfl, fun j hj => by omega, fun _ _ => rfl, h⟩
  | succ i ih =>
    intro hi
    obtain ⟨s1, ks, h1, h2, h3, h4, h5⟩ := ih (by omega)
    obtain ⟨s2, k, l1, l2, l3, l4, l5⟩ := leaf_ok (childR c i).1 h5 (by simp; omega)
    refine ⟨s2, ks ++ [k], ?_, by simp [h2], fun j hj => ?_, fun x hx => (l3 x ?_).trans (h4 x hx), l5⟩
    · unfold kidsF at h1 ⊢
      rw [runs_succ h1]
      simp only [l1]
    · by_cases e : j = i
      · subst e
        exact ⟨k, by rw [← h2]; simp, l2⟩
      · obtain ⟨k', m1, m2⟩ := h3 j (by omega)
        refine ⟨k', by rw [List.getElem?_append_left (by omega)]; exact m1, (l3 k' ?_).trans m2⟩
        have := List.mem_of_getElem? m1
        simp [this]
    · simp at hx ⊢
      rcases hx with h | h <;> simp [h]
def putOK (b n : Nat) : Prop := ∀ (f m a : Nat) (c : Ce) (S : List Pr) (I F : List Nat) (s : Ar) (r : Pr), n ≤ f → n + 1 ≤ m → Ok n c (r :: S) → Rep b s.A n a c S I → Fit s I F → F.length + capN n ≤ big →
  ∃ s' I', addF b (putT b f) m s a r = some s' ∧ Rep b s'.A n a c (r :: S) I' ∧ Fit s' I' F ∧ Same F s s'
theorem kids_cons {c : Ce} {r : Pr} {S : List Pr} {i : Nat} : kidsS c (r :: S) i = if kidF r.at_ c.l = i then r :: kidsS c S i else kidsS c S i := by
  unfold kidsS
  rw [List.filter_cons]
  simp only [decide_eq_true_eq]
theorem oth_len {J : Nat → List Nat} {m i : Nat} (hi : i < 4) (h : ∀ j, j < 4 → (J j).length ≤ m) : (oth J i).length ≤ 3 * m := by
  have h0 := h 0 (by omega)
  have h1 := h 1 (by omega)
  have h2 := h 2 (by omega)
  have h3 := h 3 (by omega)
  rcases (show i = 0 ∨ i = 1 ∨ i = 2 ∨ i = 3 by omega) with rfl | rfl | rfl | rfl <;> simp [oth] <;> omega
theorem putSplit {b n : Nat} (hP : putOK b n) (f m a : Nat) (c : Ce) (S : List Pr) (I F : List Nat) (s : Ar) (r : Pr) (hf : n ≤ f) (hm : n + 2 ≤ m) (hO : Ok (n + 1) c (r :: S)) (hR : SpR (Rep b s.A n) s.A a c S I) (hF : Fit s I F) (hc : F.length + capN (n + 1) ≤ big) :
    ∃ s' I', addF b (putT b f) m s a r = some s' ∧ SpR (Rep b s'.A n) s'.A a c (r :: S) I' ∧ Fit s' I' F ∧ Same F s s' := by
  obtain ⟨m, rfl⟩ : ∃ m', m = m' + 1 := ⟨m - 1, by omega⟩
  obtain ⟨q, J, k, h1, h2, h3, h4, h5, h6, h7, rfl⟩ := hR
  have hal : a < s.A.length := (List.getElem?_eq_some_iff.1 h1).1
  have hi := kidF_lt r.at_ c.l
  have hnd := hF.nodup
  generalize hki : kidF r.at_ c.l = i at *
  have hOk : okN q := (hO.sub (S' := S) (fun x hx => List.mem_cons_of_mem _ hx) (by simp)).okN h2 h5 (by rw [h4]; simp)
  have hJa : ∀ j, j < 4 → a ∉ J j := fun j hj e => by
    rw [List.append_assoc, List.cons_append] at hnd
    exact (List.nodup_cons.1 hnd).1 (List.mem_append.2 (.inl (mem_flat4 hj e)))
  have hs1 : ∀ x, x ≠ a → (s.A.set a { q with many := q.many + 1 })[x]? = s.A[x]? := fun x hx => List.getElem?_set_ne (Ne.symm hx)
  have hkO : Ok n (childOf c i) (r :: kidsS c S i) := by
    have := hO.kid hi
    rw [kids_cons, if_pos hki] at this
    exact this
  have hRi : Rep b (s.A.set a { q with many := q.many + 1 }) n (k i) (childOf c i) (kidsS c S i) (J i) := (h7 i hi).congr (fun x hx => hs1 x (by rintro rfl; exact hJa i hi hx)) (List.Perm.refl _)
  have hJl := oth_len hi (m := capN n) (fun j hj => (h7 j hj).len)
  have hFi : Fit ⟨s.A.set a { q with many := q.many + 1 }, s.fr⟩ (J i) (a :: (oth J i ++ F)) := by
    refine hF.to (by simp) (List.perm_iff_count.2 fun x => ?_)
    have := (flat4_perm (J := J) hi).count_eq x
    simp only [List.count_append, List.count_cons] at this ⊢
    omega
  obtain ⟨s', I', p1, p2, p3, p4⟩ := hP f m (k i) (childOf c i) (kidsS c S i) (J i) (a :: (oth J i ++ F)) ⟨s.A.set a { q with many := q.many + 1 }, s.fr⟩ r hf (by omega) hkO hRi hFi (by simp [capN] at hc ⊢; omega)
  refine ⟨s', a :: flat4 (upd J i I'), ?_, ⟨{ q with many := q.many + 1 }, upd J i I', k, ?_, h2, h3, h4, by simp [h5], fun j hj => h6 j hj, fun j hj => ?_, rfl⟩, ?_, fun x hx => ?_⟩
  · unfold addF
    simp only [h1]
    rw [if_neg (fun e => e hOk), if_pos h3, show kidF r.at_ q.c.l = i by rw [h2]; exact hki, h6 i hi, toA_nat]
    exact p1
  · have := p4 a (by simp)
    rw [this]
    exact List.getElem?_set_self hal
  · by_cases e : j = i
    · subst e
      rw [upd_self, kids_cons, if_pos hki]
      exact p2
    · rw [upd_ne e, kids_cons, if_neg (by rw [hki]; exact fun e' => e e'.symm)]
      refine (h7 j hj).congr (fun x hx => ?_) (List.Perm.refl _)
      rw [p4 x (by simp [mem_oth hi hj e hx])]
      exact hs1 x (by rintro rfl; exact hJa j hj hx)
  · refine p3.to rfl (List.perm_iff_count.2 fun x => ?_)
    have := (flat4_perm (J := upd J i I') hi).count_eq x
    rw [upd_self, oth_upd hi] at this
    simp only [List.count_append, List.count_cons] at this ⊢
    omega
  · rw [p4 x (by simp [hx])]
    refine hs1 x ?_
    rintro rfl
    rw [List.append_assoc, List.cons_append] at hnd
    exact (List.nodup_cons.1 hnd).1 (by simp [hx])
theorem getK_of {ks : List Nat} {i k : Nat} (h : ks[i]? = some k) : getK ks i = (k : Int) := by simp [getK, h]
theorem part_ok {b n : Nat} (hP : putOK b n) (f a : Nat) (c : Ce) (l : List Pr) (F : List Nat) (s : Ar) (hf : n + 1 ≤ f) (hn : n ≤ 15) (hO : Ok (n + 1) c l) {q : Qn} (hq : s.A[a]? = some q) (hqc : q.c = c) (hql : q.l = l) (hqm : q.many = l.length) (hF : Fit s [a] F) (hc : F.length + capN (n + 1) ≤ big) :
    ∃ s' I', partF (putT b f) s a = some s' ∧ SpR (Rep b s'.A n) s'.A a c l I' ∧ Fit s' I' F ∧ Same F s s' := by
  obtain ⟨f, rfl⟩ : ∃ f', f = f' + 1 := ⟨f - 1, by omega⟩
  have hcp := capN_pos n
  obtain ⟨s4, ks, g1, g2, g3, g4, g5⟩ := kids_ok (c := c) hF (by simp [capN] at hc; omega) 4 (Nat.le_refl _)
  have hOk : okN q := hO.okN hqc hqm (by rw [hql]; exact Nat.le_refl _)
  have hq4 : s4.A[a]? = some q := (g4 a (by simp)).trans hq
  have hal := (List.getElem?_eq_some_iff.1 hq4).1
  have hc' := (rightC_iff.1 hO.r).1
  have hol := hO.l
  obtain ⟨q', eq', m1, m2, m3, m4, m5⟩ : ∃ q' : Qn, q' = { q with l := [], full := true, split := true, k0 := getK ks 0, k1 := getK ks 1, k2 := getK ks 2, k3 := getK ks 3, many := 0 } ∧ q'.c = c ∧ q'.split = true ∧ q'.l = [] ∧ q'.many = 0 ∧ ∀ i, i < 4 → q'.kid i = getK ks i := ⟨_, rfl, hqc, rfl, rfl, rfl, fun i hi => by
    rcases (show i = 0 ∨ i = 1 ∨ i = 2 ∨ i = 3 by omega) with rfl | rfl | rfl | rfl <;> rfl⟩
  have hnd := g5.nodup
  have hks : ∀ k ∈ ks, k ≠ a := fun k hk e => by
    subst e
    simp at hnd
    exact absurd hk hnd.1.1
  have hIE : a :: flat4 (fun i => [(ks[i]?).getD 0]) = a :: ks := by
    match ks, g2 with
    | [k0, k1, k2, k3], _ => rfl
  have hS0 : SpR (Rep b (s4.A.set a q') n) (s4.A.set a q') a c [] (a :: ks) := by
    refine ⟨q', fun i => [(ks[i]?).getD 0], fun i => (ks[i]?).getD 0, List.getElem?_set_self hal, m1, m2, m3, m4, fun i hi => m5 i hi, fun i hi => ?_, hIE.symm⟩
    obtain ⟨k, n1, n2⟩ := g3 i hi
    have hka := hks k (List.mem_of_getElem? n1)
    have hch : (childR c i).1 = childOf c i := by
      rw [child_box hO.r (by omega), if_pos ⟨by omega, by omega⟩]
    rw [hch] at n2
    have hlf : LfR (s4.A.set a q') k (childOf c i) [] [k] := ⟨_, (List.getElem?_set_ne (Ne.symm hka)).trans n2, rfl, rfl, List.Perm.refl _, rfl, rfl⟩
    simp only [n1, Option.getD_some, kidsS, List.filter_nil]
    cases n with
    | zero => exact hlf
    | succ n => exact .inl ⟨Nat.zero_le _, hlf⟩
  have hF0 : Fit ⟨s4.A.set a q', s4.fr⟩ (a :: ks) F := g5.to (by simp) (List.Perm.refl _)
  have hrun : ∀ i, i ≤ l.length → ∃ u I', putsF (putT b (f + 1)) a l ⟨s4.A.set a q', s4.fr⟩ i = some u ∧ SpR (Rep b u.A n) u.A a c (l.take i) I' ∧ Fit u I' F ∧ Same F s u := by
    intro i
    induction i with
    | zero =>
      intro _
      refine ⟨_, _, rfl, hS0, hF0, fun x hx => ?_⟩
      have hxa : x ≠ a := by
        rintro rfl
        simp at hnd
        exact hnd.1.2.1 hx
      exact (List.getElem?_set_ne (Ne.symm hxa)).trans (g4 x (by simp [hx]))
    | succ i ih =>
      intro hi
      obtain ⟨u, I', p1, p2, p3, p4⟩ := ih (by omega)
      have hsub : ∀ r ∈ l[i] :: l.take i, r ∈ l := fun r hr => by
        rcases List.mem_cons.1 hr with rfl | hr
        · exact List.getElem_mem _
        · exact List.mem_of_mem_take hr
      obtain ⟨u', I2, t1, t2, t3, t4⟩ := putSplit hP f 18 a c (l.take i) I' F u l[i] (by omega) (by omega) (hO.sub hsub (by simp; omega)) p2 p3 hc
      refine ⟨u', I2, ?_, t2.congr (fun _ _ => rfl) ?_ (fun a c S S' I' hI hS h => h.congr (fun _ _ => rfl) hS), t3, p4.trans t4⟩
      · unfold putsF at p1 ⊢
        rw [runs_succ p1]
        have : l[i]? = some l[i] := List.getElem?_eq_getElem (by omega)
        simp only [this]
        exact t1
      · rw [List.take_succ_eq_append_getElem (by omega)]
        exact (List.perm_append_singleton _ _).symm
  obtain ⟨u, I', p1, p2, p3, p4⟩ := hrun l.length (Nat.le_refl _)
  rw [List.take_length] at p2
  refine ⟨u, I', ?_, p2, p3, p4⟩
  unfold partF
  simp only [hq]
  rw [if_neg (fun e => e hOk), hqc, g1]
  simp only [hq4]
  rw [← hqc] at *
  rw [eq'] at p1
  rw [hql]
  exact p1
theorem put_ok {b : Nat} (hb : 1 ≤ b) : ∀ n, n ≤ 16 → putOK b n := by
  intro n
  induction n with
  | zero =>
    intro _ f m a c S I F s r hf hm hO hR hF hc
    obtain ⟨m, rfl⟩ : ∃ m', m = m' + 1 := ⟨m - 1, by omega⟩
    obtain ⟨q, h1, h2, h3, h4, h5, rfl⟩ := hR
    have hal := (List.getElem?_eq_some_iff.1 h1).1
    have hOk : okN q := (hO.sub (S' := S) (fun x hx => List.mem_cons_of_mem _ hx) (by simp)).okN h2 h5 (by rw [h4.length_eq]; exact Nat.le_refl _)
    have hl := hO.l
    have hxa : ∀ x ∈ F, x ≠ a := fun x hx e => by
      subst e
      have := hF.nodup
      simp at this
      exact this.1.1 hx
    refine ⟨⟨s.A.set a { q with many := q.many + 1, l := q.l ++ [r], full := false }, s.fr⟩, [a], ?_, ⟨_, List.getElem?_set_self hal, h2, h3, (List.perm_append_singleton _ _).trans (h4.cons r), by simp [h5], rfl⟩, hF.to (by simp) (List.Perm.refl _), fun x hx => List.getElem?_set_ne (Ne.symm (hxa x hx))⟩
    unfold addF
    simp only [h1]
    rw [if_neg (fun e => e hOk), if_neg (by simp [h3]), if_neg (by rw [h2]; omega)]
  | succ n ih =>
    intro hn f m a c S I F s r hf hm hO hR hF hc
    have hP := ih (by omega)
    rcases hR with ⟨hSb, hL⟩ | ⟨hSb, hSp⟩
    · obtain ⟨m, rfl⟩ : ∃ m', m = m' + 1 := ⟨m - 1, by omega⟩
      obtain ⟨q, h1, h2, h3, h4, h5, rfl⟩ := hL
      have hal := (List.getElem?_eq_some_iff.1 h1).1
      have hOk : okN q := (hO.sub (S' := S) (fun x hx => List.mem_cons_of_mem _ hx) (by simp)).okN h2 h5 (by rw [h4.length_eq]; exact Nat.le_refl _)
      have hl := hO.l
      have hxa : ∀ x ∈ F, x ≠ a := fun x hx e => by
        subst e
        have := hF.nodup
        simp at this
        exact this.1.1 hx
      have hql := h4.length_eq
      have hpm : (q.l ++ [r]).Perm (r :: S) := (List.perm_append_singleton _ _).trans (h4.cons r)
      have hF1 : Fit ⟨s.A.set a { q with many := q.many + 1, l := q.l ++ [r], full := false }, s.fr⟩ [a] F := hF.to (by simp) (List.Perm.refl _)
      have hS1 : Same F s ⟨s.A.set a { q with many := q.many + 1, l := q.l ++ [r], full := false }, s.fr⟩ := fun x hx => List.getElem?_set_ne (Ne.symm (hxa x hx))
      by_cases hov : b < (q.l ++ [r]).length
      · have hO2 : Ok (n + 1) c (q.l ++ [r]) := hO.sub (fun x hx => hpm.mem_iff.1 hx) (by rw [hpm.length_eq]; exact Nat.le_refl _)
        obtain ⟨s', I', p1, p2, p3, p4⟩ := part_ok hP f a c (q.l ++ [r]) F ⟨s.A.set a { q with many := q.many + 1, l := q.l ++ [r], full := false }, s.fr⟩ (by omega) (by omega) hO2 (List.getElem?_set_self hal) h2 rfl (by simp [h5, hql]) hF1 hc
        refine ⟨s', I', ?_, .inr ⟨by rw [← hpm.length_eq]; exact hov, p2.congr (fun _ _ => rfl) hpm fun a c S S' I' hI hS h => h.congr (fun _ _ => rfl) hS⟩, p3, hS1.trans p4⟩
        unfold addF
        simp only [h1]
        rw [if_neg (fun e => e hOk), if_neg (by simp [h3])]
        rw [if_pos ⟨hov, by rw [h2]; omega⟩]
        exact p1
      · refine ⟨⟨s.A.set a { q with many := q.many + 1, l := q.l ++ [r], full := false }, s.fr⟩, [a], ?_, .inl ⟨by rw [← hpm.length_eq]; omega, _, List.getElem?_set_self hal, h2, h3, hpm, by simp [h5], rfl⟩, hF1, hS1⟩
        unfold addF
        simp only [h1]
        rw [if_neg (fun e => e hOk), if_neg (by simp [h3])]
        rw [if_neg (by intro e; exact hov e.1)]
    · obtain ⟨s', I', p1, p2, p3, p4⟩ := putSplit hP f m a c S I F s r (by omega) (by omega) hO hSp hF hc
      exact ⟨s', I', p1, .inr ⟨by simp; omega, p2⟩, p3, p4⟩
end Go.Proofs.Ytmjnffjacgjfmaa
