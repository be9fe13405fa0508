/- A quadtree of points that stands for records: plain, and what its methods do. -/
import Derived.Test.YtmjnffjacgjfmaaJm
import Derived.Test.YtmjnffjacgjfmaaJl1
namespace Go.Proofs.Ytmjnffjacgjfmaa
set_option linter.all false
open Go.RowKit AM
def kidsU (c : Ce) (S : List Pr) : Nat → List Pr
  | 0 => []
  | i + 1 => kidsU c S i ++ kidsS c S i
theorem kidsU_perm {c : Ce} {S : List Pr} : (kidsU c S 4).Perm S := by
  refine List.perm_iff_count.2 fun x => ?_
  have h : ∀ i, (kidsS c S i).count x = if kidF x.at_ c.l = i then S.count x else 0 := fun i => by
    unfold kidsS
    split
    · rename_i e
      exact List.count_filter (by simpa using e)
    · rename_i e
      refine List.count_eq_zero.2 fun hx => e ?_
      simpa using (List.mem_filter.1 hx).2
  have hl := kidF_lt x.at_ c.l
  simp only [kidsU, List.nil_append, List.count_append, h]
  rcases (show kidF x.at_ c.l = 0 ∨ kidF x.at_ c.l = 1 ∨ kidF x.at_ c.l = 2 ∨ kidF x.at_ c.l = 3 by omega) with e | e | e | e <;> simp [e]
/-- What is told of the kids in turn. -/
theorem kids_told {q : Qn} {c : Ce} {S : List Pr} {p : Pr → Bool} {G : Nat → Option (List Pr)} {k : Nat → Nat} {l : List Pr} (hl : l = []) (hk : ∀ i, i < 4 → q.kid i = (k i : Int)) (hG : ∀ i, i < 4 → ∃ L, G (k i) = some L ∧ L.Perm ((kidsS c S i).filter p)) :
    ∃ L, runs (kidDo q fun u a' => (G a').map (u ++ ·)) l 4 = some L ∧ L.Perm (S.filter p) := by
  subst hl
  have go : ∀ i, i ≤ 4 → ∃ L, runs (kidDo q fun u a' => (G a').map (u ++ ·)) [] i = some L ∧ L.Perm ((kidsU c S i).filter p) := by
    intro i
    induction i with
    | zero => intro _; exact ⟨[], rfl, List.Perm.refl _⟩
    | succ i ih =>
      intro hi
      obtain ⟨L, h1, h2⟩ := ih (by omega)
      obtain ⟨L', h3, h4⟩ := hG i (by omega)
      refine ⟨L ++ L', ?_, ?_⟩
      · rw [runs_succ h1]
        unfold kidDo
        rw [hk i (by omega), toA_nat]
        simp [h3]
      · rw [kidsU, List.filter_append]
        exact h2.append h4
  obtain ⟨L, h1, h2⟩ := go 4 (Nat.le_refl _)
  exact ⟨L, h1, h2.trans (kidsU_perm.filter p)⟩
theorem filter_true {S : List Pr} : S.filter (fun _ => true) = S := List.filter_eq_self.2 fun _ _ => rfl
theorem each_ok {b : Nat} {A : List Qn} : ∀ (n m a : Nat) (c : Ce) (S : List Pr) (I : List Nat), n + 1 ≤ m → Ok n c S → Rep b A n a c S I → ∃ L, eachF A m a = some L ∧ L.Perm S := by
  intro n
  induction n with
  | zero =>
    intro m a c S I hm hO hR
    obtain ⟨m, rfl⟩ : ∃ m', m = m' + 1 := ⟨m - 1, by omega⟩
    obtain ⟨q, h1, h2, h3, h4, h5, rfl⟩ := hR
    have hOk := hO.okN h2 h5 (by rw [h4.length_eq]; exact Nat.le_refl _)
    refine ⟨q.l, ?_, h4⟩
    unfold eachF
    simp only [h1]
    rw [if_neg (fun e => e hOk), if_neg (by simp [h3])]
  | succ n ih =>
    intro m a c S I hm hO hR
    obtain ⟨m, rfl⟩ : ∃ m', m = m' + 1 := ⟨m - 1, by omega⟩
    rcases hR with ⟨_, q, h1, h2, h3, h4, h5, rfl⟩ | ⟨_, q, J, k, h1, h2, h3, h4, h5, h6, h7, rfl⟩
    · have hOk := hO.okN h2 h5 (by rw [h4.length_eq]; exact Nat.le_refl _)
      refine ⟨q.l, ?_, h4⟩
      unfold eachF
      simp only [h1]
      rw [if_neg (fun e => e hOk), if_neg (by simp [h3])]
    · have hOk := hO.okN h2 h5 (by rw [h4]; simp)
      obtain ⟨L, g1, g2⟩ := kids_told (q := q) (c := c) (S := S) (p := fun _ => true) (G := eachF A m) h4 h6 (fun i hi => by
        rw [filter_true]
        exact ih m (k i) (childOf c i) (kidsS c S i) (J i) (by omega) (hO.kid hi) (h7 i hi))
      rw [filter_true] at g2
      refine ⟨L, ?_, g2⟩
      unfold eachF
      simp only [h1]
      rw [if_neg (fun e => e hOk), if_pos h3]
      exact g1
theorem wind_ok {b : Nat} {A : List Qn} {rc : Re} (hrc : rightR rc = true) : ∀ (n m a : Nat) (c : Ce) (S : List Pr) (I : List Nat), n + 1 ≤ m → n ≤ 16 → Ok n c S → Rep b A n a c S I → ∃ L, windF A rc m a = some L ∧ L.Perm (S.filter fun r => hasR rc r.at_) := by
  intro n m
  induction m generalizing n with
  | zero => intro a c S I hm; omega
  | succ m ih =>
    intro a c S I hm hn hO hR
    obtain ⟨q, J0, h1, h2, h3, hI⟩ := hR.head
    have hE := each_ok n 18 a c S I (by omega) hO hR
    have hbx : boxR q.c = (boxOf c, true) := by rw [h2]; simp [boxR, hO.r]
    have hbr := box_right hO.r
    have hin : ∀ r ∈ S, hasR (boxOf c) r.at_ = true := fun r hr => (Un.box hO.r).2 (hO.u r hr)
    have hlen : q.l.length ≤ S.length ∧ (q.split = false → q.l.Perm S) ∧ (q.split = true → q.l = [] ∧ ∃ n', n = n' + 1 ∧ ∃ (J : Nat → List Nat) (k : Nat → Nat), (∀ i, i < 4 → q.kid i = (k i : Int)) ∧ ∀ i, i < 4 → Rep b A n' (k i) (childOf c i) (kidsS c S i) (J i)) := by
      cases n with
      | zero =>
        obtain ⟨q', g1, g2, g3, g4, g5, g6⟩ := hR
        rw [h1] at g1
        cases g1
        exact ⟨by rw [g4.length_eq]; exact Nat.le_refl _, fun _ => g4, fun e => by rw [g3] at e; cases e⟩
      | succ n =>
        rcases hR with ⟨_, q', g1, g2, g3, g4, g5, g6⟩ | ⟨_, q', J, k, g1, g2, g3, g4, g5, g6, g7, g8⟩
        · rw [h1] at g1
          cases g1
          exact ⟨by rw [g4.length_eq]; exact Nat.le_refl _, fun _ => g4, fun e => by rw [g3] at e; cases e⟩
        · rw [h1] at g1
          cases g1
          exact ⟨by rw [g4]; simp, fun e => (by rw [g3] at e; cases e), fun _ => ⟨g4, n, rfl, J, k, g6, g7⟩⟩
    have hOk := hO.okN h2 h3 hlen.1
    unfold windF
    simp only [h1]
    rw [if_neg (fun e => e hOk), hbx]
    by_cases c1 : q.many = 0 ∨ meetsR (boxOf c) rc = false
    · rw [if_pos c1]
      refine ⟨[], rfl, ?_⟩
      have : S.filter (fun r => hasR rc r.at_) = [] := List.filter_eq_nil_iff.2 fun r hr he => by
        rcases c1 with c1 | c1
        · rw [h3] at c1
          have := List.length_pos_of_mem hr
          omega
        · have e1 := hasR_iff.1 (hin r hr)
          have e2 := hasR_iff.1 he
          simp [meetsR, hbr, hrc] at c1
          have := c1 (by omega) (by omega) (by omega)
          omega
      rw [this]
    · rw [if_neg c1]
      by_cases c2 : inB (boxOf c) rc = true
      · rw [if_pos c2]
        obtain ⟨L, g1, g2⟩ := hE
        refine ⟨L, g1, ?_⟩
        rw [List.filter_eq_self.2]
        · exact g2
        · intro r hr
          have e1 := hasR_iff.1 (hin r hr)
          simp [inB, hbr, hrc] at c2
          refine hasR_iff.2 ⟨hrc, ?_⟩
          omega
      · rw [if_neg c2]
        by_cases c3 : q.split = true
        · obtain ⟨g4, n', rfl, J, k, g6, g7⟩ := hlen.2.2 c3
          rw [if_pos c3]
          exact kids_told (by rw [g4]; rfl) g6 fun i hi => ih n' (k i) (childOf c i) (kidsS c S i) (J i) (by omega) (by omega) (hO.kid hi) (g7 i hi)
        · rw [if_neg c3]
          exact ⟨_, rfl, (hlen.2.1 (by simpa using c3)).filter _⟩
/-! ## The shape -/
def shapeP (b : Nat) : Nat → Ce → List Pr → Nat × Int
  | 0, c, _ => (1, c.l)
  | n + 1, c, S => if S.length ≤ b then (1, c.l) else
    (1 + (shapeP b n (childOf c 0) (kidsS c S 0)).1 + (shapeP b n (childOf c 1) (kidsS c S 1)).1 + (shapeP b n (childOf c 2) (kidsS c S 2)).1 + (shapeP b n (childOf c 3) (kidsS c S 3)).1,
     max (max (max (max c.l (shapeP b n (childOf c 0) (kidsS c S 0)).2) (shapeP b n (childOf c 1) (kidsS c S 1)).2) (shapeP b n (childOf c 2) (kidsS c S 2)).2) (shapeP b n (childOf c 3) (kidsS c S 3)).2)
theorem shape_perm {b : Nat} : ∀ {n : Nat} {c : Ce} {S S' : List Pr}, S.Perm S' → shapeP b n c S = shapeP b n c S'
  | 0, _, _, _, _ => rfl
  | n + 1, c, S, S', h => by
    unfold shapeP
    have hk : ∀ i, (kidsS c S i).Perm (kidsS c S' i) := fun i => h.filter _
    rw [h.length_eq, shape_perm (hk 0), shape_perm (hk 1), shape_perm (hk 2), shape_perm (hk 3)]
theorem shape_ok {b : Nat} {A : List Qn} : ∀ (n m a : Nat) (c : Ce) (S : List Pr) (I : List Nat), n + 1 ≤ m → Rep b A n a c S I → I.length = (shapeP b n c S).1 ∧ deepF A m a = some (shapeP b n c S).2 := by
  intro n
  induction n with
  | zero =>
    intro m a c S I hm hR
    obtain ⟨m, rfl⟩ : ∃ m', m = m' + 1 := ⟨m - 1, by omega⟩
    obtain ⟨q, h1, h2, h3, h4, h5, rfl⟩ := hR
    refine ⟨rfl, ?_⟩
    unfold deepF
    simp only [h1]
    rw [if_neg (by simp [h3]), h2]
    rfl
  | succ n ih =>
    intro m a c S I hm hR
    obtain ⟨m, rfl⟩ : ∃ m', m = m' + 1 := ⟨m - 1, by omega⟩
    unfold shapeP
    rcases hR with ⟨hb, q, h1, h2, h3, h4, h5, rfl⟩ | ⟨hb, q, J, k, h1, h2, h3, h4, h5, h6, h7, rfl⟩
    · rw [if_pos hb]
      refine ⟨rfl, ?_⟩
      unfold deepF
      simp only [h1]
      rw [if_neg (by simp [h3]), h2]
    · rw [if_neg (by omega)]
      obtain ⟨a0, b0⟩ := ih m _ _ _ _ (by omega) (h7 0 (by omega))
      obtain ⟨a1, b1⟩ := ih m _ _ _ _ (by omega) (h7 1 (by omega))
      obtain ⟨a2, b2⟩ := ih m _ _ _ _ (by omega) (h7 2 (by omega))
      obtain ⟨a3, b3⟩ := ih m _ _ _ _ (by omega) (h7 3 (by omega))
      refine ⟨by simp [flat4] at a0 a1 a2 a3 ⊢; omega, ?_⟩
      unfold deepF
      simp only [h1]
      rw [if_pos h3, h2]
      have st : ∀ (i : Nat) (d v : Int), i < 4 → deepF A m (k i) = some v → kidDo q (fun d a' => (deepF A m a').map (max d ·)) i d = some (max d v) := fun i d v hi hv => by
        unfold kidDo
        rw [h6 i hi, toA_nat]
        simp [hv]
      simp only [runs, st 0 _ _ (by omega) b0, st 1 _ _ (by omega) b1, st 2 _ _ (by omega) b2, st 3 _ _ (by omega) b3]
      rfl
/-! ## A record goes -/
def restJ (J : Nat → List Nat) : Nat → List Nat
  | 0 => J 0 ++ (J 1 ++ (J 2 ++ (J 3 ++ [])))
  | 1 => J 1 ++ (J 2 ++ (J 3 ++ []))
  | 2 => J 2 ++ (J 3 ++ [])
  | 3 => J 3 ++ []
  | _ => []
theorem restJ_step {J : Nat → List Nat} {i : Nat} (hi : i < 4) : restJ J i = J i ++ restJ J (i + 1) := by
  rcases (show i = 0 ∨ i = 1 ∨ i = 2 ∨ i = 3 by omega) with rfl | rfl | rfl | rfl <;> rfl
theorem restJ_mem {J : Nat → List Nat} {i j x : Nat} (hij : i ≤ j) (hj : j < 4) (hx : x ∈ J j) : x ∈ restJ J i := by
  rcases (show i = 0 ∨ i = 1 ∨ i = 2 ∨ i = 3 by omega) with rfl | rfl | rfl | rfl <;>
    rcases (show j = 0 ∨ j = 1 ∨ j = 2 ∨ j = 3 by omega) with rfl | rfl | rfl | rfl <;> first | (exfalso; omega) | simp [restJ, hx]
theorem restJ_flat {J : Nat → List Nat} : restJ J 0 = flat4 J := by simp [restJ, flat4]
/-- What is below a node goes. -/
theorem clear_kids {b n m a : Nat} {s : Ar} {F : List Nat} {q : Qn} {J : Nat → List Nat} {k : Nat → Nat} {c : Ce} {S : List Pr} (ih : ∀ (a : Nat) (c : Ce) (S : List Pr) (I F : List Nat) (s : Ar), Rep b s.A n a c S I → Fit s I F → ∃ s', clearF m s a = some s' ∧ Fit s' [a] F ∧ Same F s s' ∧ s'.A.length = s.A.length)
    (h6 : ∀ i, i < 4 → q.kid i = (k i : Int)) (h7 : ∀ i, i < 4 → Rep b s.A n (k i) (childOf c i) (kidsS c S i) (J i)) (hF : Fit s (a :: flat4 J) F) :
    ∃ s', runs (kidDo q fun u a' => (clearF m u a').bind (freeF a')) s 4 = some s' ∧ Fit s' [a] F ∧ Same (a :: F) s s' ∧ s'.A.length = s.A.length := by
  have go : ∀ i, i ≤ 4 → ∃ u, runs (kidDo q fun u a' => (clearF m u a').bind (freeF a')) s i = some u ∧ Fit u (a :: restJ J i) F ∧ Same (a :: (restJ J i ++ F)) s u ∧ u.A.length = s.A.length := by
    intro i
    induction i with
    | zero => intro _; exact ⟨s, rfl, by rw [restJ_flat]; exact hF, fun _ _ => rfl, rfl⟩
    | succ i ihi =>
      intro hi
      obtain ⟨u, g1, g2, g3, g4⟩ := ihi (by omega)
      have hst := restJ_step (J := J) (i := i) (by omega)
      have hRu : Rep b u.A n (k i) (childOf c i) (kidsS c S i) (J i) := (h7 i (by omega)).congr (fun x hx => g3 x (by rw [hst]; simp [hx])) (List.Perm.refl _)
      have hFu : Fit u (J i) (a :: (restJ J (i + 1) ++ F)) := g2.to rfl (by
        rw [hst]
        refine List.perm_iff_count.2 fun x => ?_
        simp only [List.count_append, List.count_cons]
        omega)
      obtain ⟨u1, p1, p2, p3, p4⟩ := ih _ _ _ _ _ u hRu hFu
      have hk := p2.lt (.inl (List.mem_singleton.2 rfl))
      have hl1 := p2.len
      have hl2 := p2.length
      have hnk : k i ∉ a :: (restJ J (i + 1) ++ F) := fun e => by
        have := p2.nodup
        rw [List.append_assoc, List.singleton_append] at this
        exact (List.nodup_cons.1 this).1 (List.mem_append.2 (.inl e))
      refine ⟨⟨u1.A.set (k i) zeroN, u1.fr ++ [k i]⟩, ?_, ?_, fun x hx => ?_, by simp [p4, g4]⟩
      · rw [runs_succ g1]
        unfold kidDo
        rw [h6 i (by omega), toA_nat]
        simp only [p1, Option.bind_some]
        unfold freeF
        rw [if_pos ⟨hk, by omega⟩]
      · refine p2.to (by simp) (List.perm_iff_count.2 fun x => ?_)
        simp only [List.count_append, List.count_cons, List.count_nil]
        omega
      · have h1 : x ≠ k i := fun e => hnk (e ▸ hx)
        have h2 : x ∈ a :: (restJ J i ++ F) := by
          rw [hst]
          simp at hx ⊢
          rcases hx with h | h | h <;> simp [h]
        exact ((List.getElem?_set_ne (Ne.symm h1)).trans (p3 x hx)).trans (g3 x h2)
  obtain ⟨u, g1, g2, g3, g4⟩ := go 4 (Nat.le_refl _)
  exact ⟨u, g1, g2, fun x hx => g3 x (by simpa [restJ] using hx), g4⟩
theorem clear_ok {b : Nat} : ∀ (n m a : Nat) (c : Ce) (S : List Pr) (I F : List Nat) (s : Ar), n + 1 ≤ m → Rep b s.A n a c S I → Fit s I F → ∃ s', clearF m s a = some s' ∧ Fit s' [a] F ∧ Same F s s' ∧ s'.A.length = s.A.length := by
  intro n
  induction n with
  | zero =>
    intro m a c S I F s hm hR hF
    obtain ⟨m, rfl⟩ : ∃ m', m = m' + 1 := ⟨m - 1, by omega⟩
    obtain ⟨q, h1, h2, h3, h4, h5, rfl⟩ := hR
    refine ⟨s, ?_, hF, fun _ _ => rfl, rfl⟩
    unfold clearF
    simp only [h1]
    rw [if_neg (by simp [h3])]
  | succ n ih =>
    intro m a c S I F s hm hR hF
    obtain ⟨m, rfl⟩ : ∃ m', m = m' + 1 := ⟨m - 1, by omega⟩
    rcases hR with ⟨hb, q, h1, h2, h3, h4, h5, rfl⟩ | ⟨hb, q, J, k, h1, h2, h3, h4, h5, h6, h7, rfl⟩
    · refine ⟨s, ?_, hF, fun _ _ => rfl, rfl⟩
      unfold clearF
      simp only [h1]
      rw [if_neg (by simp [h3])]
    · obtain ⟨s', g1, g2, g3, g4⟩ := clear_kids (fun a c S I F s hR hF => ih m a c S I F s (by omega) hR hF) h6 h7 hF
      refine ⟨s', ?_, g2, fun x hx => g3 x (List.mem_cons_of_mem _ hx), g4⟩
      unfold clearF
      simp only [h1]
      rw [if_pos h3]
      exact g1
theorem dropL_less {i : Int} : ∀ {l : List Pr}, (l.map Pr.id).Nodup → dropL i l = lessP l i
  | [], _ => rfl
  | r :: l, h => by
    rw [List.map_cons, List.nodup_cons] at h
    unfold dropL lessP
    rw [List.filter_cons]
    by_cases e : r.id = i
    · rw [if_pos e, if_neg (by simp [e])]
      refine (List.filter_eq_self.2 fun t ht => ?_).symm
      have : t.id ≠ i := fun e' => h.1 (List.mem_map.2 ⟨t, ht, e'.trans e.symm⟩)
      simpa using this
    · rw [if_neg e, if_pos (by simp [e]), dropL_less h.2]
      rfl
theorem lessP_len {S : List Pr} {r : Pr} (hn : (S.map Pr.id).Nodup) (hr : r ∈ S) : (lessP S r.id).length + 1 = S.length := by
  induction S with
  | nil => cases hr
  | cons x l ih =>
    rw [List.map_cons, List.nodup_cons] at hn
    unfold lessP
    rw [List.filter_cons]
    rcases List.mem_cons.1 hr with rfl | hr
    · rw [if_neg (by simp)]
      rw [List.filter_eq_self.2]
      · simp
      · intro t ht
        have : t.id ≠ r.id := fun e' => hn.1 (List.mem_map.2 ⟨t, ht, e'⟩)
        simpa using this
    · have hx : x.id ≠ r.id := fun e => hn.1 (List.mem_map.2 ⟨r, hr, e.symm⟩)
      rw [if_pos (by simp [hx])]
      have := ih hn.2 hr
      unfold lessP at this
      simp
      omega
theorem lessP_kids {c : Ce} {S : List Pr} {r : Pr} (hn : (S.map Pr.id).Nodup) (hr : r ∈ S) (j : Nat) : kidsS c (lessP S r.id) j = if kidF r.at_ c.l = j then lessP (kidsS c S j) r.id else kidsS c S j := by
  unfold kidsS lessP
  split
  · rw [List.filter_filter, List.filter_filter]
    refine List.filter_congr fun t _ => Bool.and_comm _ _
  · rename_i e
    rw [List.filter_filter]
    refine List.filter_congr fun t ht => ?_
    by_cases hk : kidF t.at_ c.l = j
    · have : t.id ≠ r.id := fun e' => by
        have := pid_inj hn ht hr e'
        subst this
        exact e hk
      simp [hk, this]
    · simp [hk]
def goN (q : Qn) (r : Pr) : Qn := { q with many := q.many - 1, l := dropL r.id q.l, full := fullL r.id q.l q.full }
theorem go_ok {s : Ar} {a : Nat} {r : Pr} {q : Qn} {S : List Pr} (hq : s.A[a]? = some q) (hok : okN q) (hl : q.l.Perm S) (hr : r ∈ S) : goF s a r = some ⟨s.A.set a (goN q r), s.fr⟩ := by
  unfold goF
  simp only [hq]
  rw [if_neg (fun e => e ⟨hok, List.any_eq_true.2 ⟨r, hl.mem_iff.2 hr, by simp⟩⟩)]
  rfl
set_option maxHeartbeats 1000000 in
theorem drop_ok {b : Nat} (hb1 : 1 ≤ b) : ∀ (n m a : Nat) (c : Ce) (S : List Pr) (I F : List Nat) (s : Ar) (r : Pr), n + 1 ≤ m → n ≤ 16 → Ok n c S → (S.map Pr.id).Nodup → r ∈ S → Rep b s.A n a c S I → Fit s I F →
    ∃ s' I', dropF b m s a r = some s' ∧ Rep b s'.A n a c (lessP S r.id) I' ∧ Fit s' I' F ∧ Same F s s' ∧ s'.A.length = s.A.length := by
  intro n
  have leaf : ∀ (n m a : Nat) (c : Ce) (S : List Pr) (I F : List Nat) (s : Ar) (r : Pr), 1 ≤ m → Ok n c S → (S.map Pr.id).Nodup → r ∈ S → LfR s.A a c S I → Fit s I F →
      ∃ s' I', dropF b m s a r = some s' ∧ LfR s'.A a c (lessP S r.id) I' ∧ Fit s' I' F ∧ Same F s s' ∧ s'.A.length = s.A.length := by
    intro n m a c S I F s r hm hO hn hr hL hF
    obtain ⟨m, rfl⟩ : ∃ m', m = m' + 1 := ⟨m - 1, by omega⟩
    obtain ⟨q, h1, h2, h3, h4, h5, rfl⟩ := hL
    have hal := (List.getElem?_eq_some_iff.1 h1).1
    have hOk := hO.okN h2 h5 (by rw [h4.length_eq]; exact Nat.le_refl _)
    have hG := go_ok h1 hOk h4 hr
    have hnl : (q.l.map Pr.id).Nodup := (h4.map Pr.id).nodup_iff.2 hn
    have hll := lessP_len hn hr
    have hxa : ∀ x ∈ F, x ≠ a := fun x hx e => by
      subst e
      have := hF.nodup
      simp at this
      exact this.1.1 hx
    refine ⟨⟨s.A.set a (goN q r), s.fr⟩, [a], ?_, ⟨goN q r, List.getElem?_set_self hal, h2, h3, ?_, ?_, rfl⟩, hF.to (by simp) (List.Perm.refl _), fun x hx => List.getElem?_set_ne (Ne.symm (hxa x hx)), by simp⟩
    · unfold dropF
      simp only [h1]
      rw [if_neg (fun e => e hOk), if_neg (by simp [h3])]
      exact hG
    · show (dropL r.id q.l).Perm _
      rw [dropL_less hnl]
      exact h4.filter _
    · simp only [goN]
      omega
  induction n with
  | zero =>
    intro m a c S I F s r hm hn16 hO hn hr hR hF
    exact leaf 0 m a c S I F s r (by omega) hO hn hr hR hF
  | succ n ih =>
    intro m a c S I F s r hm hn16 hO hn hr hR hF
    have hll := lessP_len hn hr
    rcases hR with ⟨hb, hL⟩ | ⟨hb, hSp⟩
    · obtain ⟨s', I', p1, p2, p3, p4, p5⟩ := leaf (n + 1) m a c S I F s r (by omega) hO hn hr hL hF
      exact ⟨s', I', p1, .inl ⟨by omega, p2⟩, p3, p4, p5⟩
    · obtain ⟨m, rfl⟩ : ∃ m', m = m' + 1 := ⟨m - 1, by omega⟩
      obtain ⟨q, J, k, h1, h2, h3, h4, h5, h6, h7, rfl⟩ := hSp
      have hal := (List.getElem?_eq_some_iff.1 h1).1
      have hOk := hO.okN h2 h5 (by rw [h4]; simp)
      have hi := kidF_lt r.at_ c.l
      have hnd := hF.nodup
      have hlS := hO.len
      have hJa : ∀ j, j < 4 → a ∉ J j := fun j hj e => by
        rw [List.append_assoc, List.cons_append] at hnd
        exact (List.nodup_cons.1 hnd).1 (List.mem_append.2 (.inl (mem_flat4 hj e)))
      have hFa : ∀ x ∈ F, x ≠ a := fun x hx e => by
        subst e
        rw [List.append_assoc, List.cons_append] at hnd
        exact (List.nodup_cons.1 hnd).1 (by simp [hx])
      have hs1 : ∀ x, x ≠ a → (s.A.set a { q with many := q.many - 1 })[x]? = s.A[x]? := fun x hx => List.getElem?_set_ne (Ne.symm hx)
      have hR1 : ∀ i, i < 4 → Rep b (s.A.set a { q with many := q.many - 1 }) n (k i) (childOf c i) (kidsS c S i) (J i) := fun i hi => (h7 i hi).congr (fun x hx => hs1 x (by rintro rfl; exact hJa i hi hx)) (List.Perm.refl _)
      have hq1 : (s.A.set a { q with many := q.many - 1 })[a]? = some { q with many := q.many - 1 } := List.getElem?_set_self hal
      have hF1 : Fit ⟨s.A.set a { q with many := q.many - 1 }, s.fr⟩ (a :: flat4 J) F := hF.to (by simp) (List.Perm.refl _)
      by_cases hmb : q.many - 1 ≤ b
      · have hOk1 : okN { q with many := q.many - 1 } := ⟨hOk.1, by simp only; omega, by simp only; omega, hOk.2.2.2⟩
        obtain ⟨L, g1, g2⟩ := kids_told (q := { q with many := q.many - 1 }) (c := c) (S := S) (p := fun _ => true) (G := eachF (s.A.set a { q with many := q.many - 1 }) 17) h4 h6 (fun i hi => by
          rw [filter_true]
          exact each_ok n 17 (k i) (childOf c i) (kidsS c S i) (J i) (by omega) (hO.kid hi) (hR1 i hi))
        rw [filter_true] at g2
        have hE : eachF (s.A.set a { q with many := q.many - 1 }) 18 a = some L := by
          unfold eachF
          simp only [hq1]
          rw [if_neg (fun e => e hOk1), if_pos h3]
          exact g1
        obtain ⟨s1, c1, c2, c3, c4⟩ := clear_kids (b := b) (m := 17) (s := ⟨s.A.set a { q with many := q.many - 1 }, s.fr⟩) (fun a c S I F s hR hF => clear_ok n 17 a c S I F s (by omega) hR hF) h6 hR1 hF1
        have hC : clearF 18 ⟨s.A.set a { q with many := q.many - 1 }, s.fr⟩ a = some s1 := by
          unfold clearF
          simp only [hq1]
          rw [if_pos h3]
          exact c1
        have hqs : s1.A[a]? = some { q with many := q.many - 1 } := (c3 a (by simp)).trans hq1
        have hal1 := (List.getElem?_eq_some_iff.1 hqs).1
        have hLl := g2.length_eq
        obtain ⟨q2, eq2, e1, e2, e3, e4⟩ : ∃ q2 : Qn, q2 = { q with many := q.many - 1, l := L, full := false, split := false, k0 := -1, k1 := -1, k2 := -1, k3 := -1 } ∧ q2.c = c ∧ q2.l = L ∧ q2.split = false ∧ q2.many = q.many - 1 := ⟨_, rfl, h2, rfl, rfl, rfl⟩
        have hM : mergeF 18 ⟨s.A.set a { q with many := q.many - 1 }, s.fr⟩ a = some ⟨s1.A.set a q2, s1.fr⟩ := by
          unfold mergeF
          simp only [hE]
          rw [if_neg (fun e => e ⟨by omega, by rintro rfl; simp at hLl; omega⟩), hC]
          simp only [hqs]
          rw [eq2]
        have hq2 : (s1.A.set a q2)[a]? = some q2 := List.getElem?_set_self hal1
        have hOk2 : okN q2 := ⟨by rw [e1]; exact hO.r, by omega, by omega, by rw [e2]; omega⟩
        have hq3 : ((s1.A.set a q2).set a { q2 with many := q2.many + 1 })[a]? = some { q2 with many := q2.many + 1 } := List.getElem?_set_self (by simpa using hal1)
        have hOk3 : okN { q2 with many := q2.many + 1 } := ⟨hOk2.1, by simp only; omega, by simp only; omega, hOk2.2.2.2⟩
        have hG := go_ok (s := ⟨(s1.A.set a q2).set a { q2 with many := q2.many + 1 }, s1.fr⟩) hq3 hOk3 (S := S) (by rw [e2]; exact g2) hr
        have hnl : (L.map Pr.id).Nodup := (g2.map Pr.id).nodup_iff.2 hn
        refine ⟨⟨((s1.A.set a q2).set a { q2 with many := q2.many + 1 }).set a (goN { q2 with many := q2.many + 1 } r), s1.fr⟩, [a], ?_, .inl ⟨by omega, goN { q2 with many := q2.many + 1 } r, List.getElem?_set_self (by simpa using hal1), e1, e3, ?_, ?_, rfl⟩, c2.to (by simp) (List.Perm.refl _), fun x hx => ?_, by simp [c4]⟩
        · unfold dropF
          simp only [h1]
          rw [if_neg (fun e => e hOk), if_pos h3, if_pos hmb, hM]
          simp only [hq2]
          rw [if_neg (fun e => e hOk2)]
          exact hG
        · show (dropL r.id q2.l).Perm _
          rw [e2, dropL_less hnl]
          exact g2.filter _
        · simp only [goN]
          omega
        · have hx := hFa x hx
          simp only
          rw [List.getElem?_set_ne (Ne.symm hx), List.getElem?_set_ne (Ne.symm hx), List.getElem?_set_ne (Ne.symm hx)]
          exact (c3 x (by simp [*])).trans (hs1 x hx)
      · generalize hki : kidF r.at_ c.l = i at *
        have hri : r ∈ kidsS c S i := List.mem_filter.2 ⟨hr, by simp [hki]⟩
        have hni : ((kidsS c S i).map Pr.id).Nodup := List.Nodup.sublist (List.Sublist.map _ List.filter_sublist) hn
        have hFi : Fit ⟨s.A.set a { q with many := q.many - 1 }, s.fr⟩ (J i) (a :: (oth J i ++ F)) := by
          refine hF.to (by simp) (List.perm_iff_count.2 fun x => ?_)
          have := (flat4_perm (J := J) hi).count_eq x
          simp only [List.count_append, List.count_cons] at this ⊢
          omega
        obtain ⟨s', I', p1, p2, p3, p4, p5⟩ := ih m (k i) (childOf c i) (kidsS c S i) (J i) (a :: (oth J i ++ F)) ⟨s.A.set a { q with many := q.many - 1 }, s.fr⟩ r (by omega) (by omega) (hO.kid hi) hni hri (hR1 i hi) hFi
        have hqm : ¬ (lessP S r.id).length ≤ b := by omega
        refine ⟨s', a :: flat4 (upd J i I'), ?_, .inr ⟨by omega, { q with many := q.many - 1 }, upd J i I', k, (p4 a (by simp)).trans hq1, h2, h3, h4, by simp only; omega, fun j hj => h6 j hj, fun j hj => ?_, rfl⟩, ?_, fun x hx => ?_, by simp [p5]⟩
        · unfold dropF
          simp only [h1]
          rw [if_neg (fun e => e hOk), if_pos h3, if_neg hmb, show kidF r.at_ q.c.l = i by rw [h2]; exact hki, h6 i hi, toA_nat]
          exact p1
        · rw [lessP_kids hn hr, hki]
          by_cases e : j = i
          · subst e
            rw [upd_self, if_pos rfl]
            exact p2
          · rw [upd_ne e, if_neg (fun e' => e e'.symm)]
            refine (h7 j hj).congr (fun x hx => ?_) (List.Perm.refl _)
            rw [p4 x (by simp [mem_oth hi hj e hx])]
            exact hs1 x (by rintro rfl; exact hJa j hj hx)
        · refine p3.to rfl (List.perm_iff_count.2 fun x => ?_)
          have := (flat4_perm (J := upd J i I') hi).count_eq x
          rw [upd_self, oth_upd hi] at this
          simp only [List.count_append, List.count_cons] at this ⊢
          omega
        · rw [p4 x (by simp [hx])]
          exact hs1 x (hFa x hx)
end Go.Proofs.Ytmjnffjacgjfmaa
namespace Go.Proofs.Ytmjnffjacgjfmaa
set_option linter.all false
open Go.RowKit AM
set_option maxRecDepth 10000
theorem pfnd_some {S : List Pr} {k : Int} {s : Pr} (h : pfnd S k = some s) : s ∈ S ∧ s.id = k := ⟨List.mem_of_find?_eq_some h, by simpa using List.find?_some h⟩
theorem pfnd_none {S : List Pr} {k : Int} (h : pfnd S k = none) : ∀ t ∈ S, t.id ≠ k := fun t ht => by simpa using List.find?_eq_none.1 h t ht
theorem pfnd_of {S : List Pr} (hn : (S.map Pr.id).Nodup) {s : Pr} (hs : s ∈ S) : pfnd S s.id = some s := by
  cases h : pfnd S s.id with
  | none => exact absurd rfl (pfnd_none h s hs)
  | some t =>
    obtain ⟨h1, h2⟩ := pfnd_some h
    rw [pid_inj hn h1 hs h2]
theorem pfnd_no {S : List Pr} {k : Int} (h : ∀ t ∈ S, t.id ≠ k) : pfnd S k = none := List.find?_eq_none.2 fun t ht => by simpa using h t ht
theorem pfnd_perm {S S' : List Pr} (hn : (S'.map Pr.id).Nodup) (hp : S.Perm S') (k : Int) : pfnd S k = pfnd S' k := by
  cases h : pfnd S k with
  | none => exact (pfnd_no fun t ht => pfnd_none h t (hp.mem_iff.2 ht)).symm
  | some s =>
    obtain ⟨h1, rfl⟩ := pfnd_some h
    exact (pfnd_of hn (hp.mem_iff.1 h1)).symm
/-- Records by their numbers. -/
def sortP (S : List Pr) : List Pr := S.mergeSort fun p q => decide (p.id ≤ q.id)
theorem sortP_perm (S : List Pr) : (sortP S).Perm S := List.mergeSort_perm _ _
theorem sortP_rises (S : List Pr) : (sortP S).Pairwise fun p q => p.id ≤ q.id := by
  have := List.pairwise_mergeSort (le := fun p q : Pr => decide (p.id ≤ q.id)) (fun a b c h1 h2 => by simp at *; omega) (fun a b => by simp; omega) S
  simpa [sortP] using this
theorem sortP_unique {S L : List Pr} (hn : (S.map Pr.id).Nodup) (hp : L.Perm S) (hr : L.Pairwise fun p q => p.id ≤ q.id) : L = sortP S :=
  List.Perm.eq_of_pairwise (le := fun p q : Pr => p.id ≤ q.id) (fun x y hx hy h1 h2 => pid_inj hn (hp.mem_iff.1 hx) ((sortP_perm S).mem_iff.1 hy) (Int.le_antisymm h1 h2)) hr (sortP_rises S) (hp.trans (sortP_perm S).symm)
/-- A tree at block r that has these records. -/
structure TrQ (H : List Bk) (r b nb mb cap : Nat) (s : Ar) (es : List Pr) (I : List Nat) (S : List Pr) : Prop where
  tr : TrA H r b nb mb cap s es
  rep : Rep b s.A 16 0 root0 S I
  fit : Fit s I []
  ok : Ok 16 root0 S
  ids : (S.map Pr.id).Nodup
  es : es.Perm S
def TrP (H : List Bk) (r b : Nat) (S : List Pr) (T : Nat → Prop) : Prop := ∃ nb mb cap s es I, TrQ H r b nb mb cap s es I S ∧ ∀ x, T x ↔ x = r ∨ x = nb ∨ x = mb
theorem TrQ.pos {H : List Bk} {r b nb mb cap : Nat} {s : Ar} {es : List Pr} {I : List Nat} {S : List Pr} (h : TrQ H r b nb mb cap s es I S) : 0 < s.A.length := by
  obtain ⟨q, J, h1, _⟩ := h.rep.head
  exact (List.getElem?_eq_some_iff.1 h1).1
theorem TrQ.keep {H H' : List Bk} {r b nb mb cap : Nat} {s : Ar} {es : List Pr} {I : List Nat} {S : List Pr} {U : Nat → Prop} (h : TrQ H r b nb mb cap s es I S) (hk : Kp U H H') (h1 : ¬ U r) (h2 : ¬ U nb) (h3 : ¬ U mb) : TrQ H' r b nb mb cap s es I S := ⟨h.tr.kp3 hk h1 (fun _ => h2) h3, h.rep, h.fit, h.ok, h.ids, h.es⟩
theorem TrP.keep {H H' : List Bk} {r b : Nat} {S : List Pr} {T U : Nat → Prop} (h : TrP H r b S T) (hk : Kp U H H') (hd : ∀ x, T x → ¬ U x) : TrP H' r b S T := by
  obtain ⟨nb, mb, cap, s, es, I, h, hT⟩ := h
  exact ⟨nb, mb, cap, s, es, I, h.keep hk (hd _ ((hT _).2 (.inl rfl))) (hd _ ((hT _).2 (.inr (.inl rfl)))) (hd _ ((hT _).2 (.inr (.inr rfl)))), hT⟩
theorem TrP.keep0 {H H' : List Bk} {r b : Nat} {S : List Pr} {T : Nat → Prop} (h : TrP H r b S T) (hk : Kp NoB H H') : TrP H' r b S T := h.keep hk fun _ _ => id
theorem TrP.app {H L : List Bk} {r b : Nat} {S : List Pr} {T : Nat → Prop} (h : TrP H r b S T) : TrP (H ++ L) r b S T := h.keep0 Kp.refl.app
theorem TrP.self {H : List Bk} {r b : Nat} {S : List Pr} {T : Nat → Prop} (h : TrP H r b S T) : T r := by
  obtain ⟨nb, mb, cap, s, es, I, h, hT⟩ := h
  exact (hT r).2 (.inl rfl)
theorem TrP.lt {H : List Bk} {r b : Nat} {S : List Pr} {T : Nat → Prop} (h : TrP H r b S T) : ∀ x, T x → x < H.length := by
  obtain ⟨nb, mb, cap, s, es, I, h, hT⟩ := h
  intro x hx
  rcases (hT x).1 hx with rfl | rfl | rfl
  · exact h.tr.rl
  · exact (List.getElem?_eq_some_iff.1 (h.tr.cn (by have := h.tr.le; have := h.pos; omega))).1
  · exact (List.getElem?_eq_some_iff.1 h.tr.cm).1
theorem TrP.perm {H : List Bk} {r b : Nat} {S S' : List Pr} {T : Nat → Prop} (h : TrP H r b S T) (hp : S.Perm S') : TrP H r b S' T := by
  obtain ⟨nb, mb, cap, s, es, I, h, hT⟩ := h
  exact ⟨nb, mb, cap, s, es, I, ⟨h.tr, h.rep.congr (fun _ _ => rfl) hp, h.fit, h.ok.sub (fun r hr => hp.mem_iff.2 hr) (by rw [hp.length_eq]; exact Nat.le_refl _), (hp.map Pr.id).nodup_iff.1 h.ids, h.es.trans hp⟩, hT⟩
theorem TrP.ids {H : List Bk} {r b : Nat} {S : List Pr} {T : Nat → Prop} (h : TrP H r b S T) : (S.map Pr.id).Nodup := by
  obtain ⟨nb, mb, cap, s, es, I, h, hT⟩ := h
  exact h.ids
theorem un_root {p : Pt} (h : fits p = true) : Un root0 p := ⟨h, under_root (cell_right h (by omega) (by omega))⟩
theorem root_right' : rightC root0 = true := by decide
theorem cap_big : 0 + capN 16 ≤ big := by decide
theorem toNo {H H' : List Bk} (h : KpA (fun _ => False) H H') : Kp NoB H H' := h.toKp
theorem pNew (v : Int) (H : List Bk) : AFn Try.prog 15 [.sc (.int .i64 v)] H fun y H' => (newE v = false → y = .tup [.sc (.pointer none), .sc (.int .i64 1)] ∧ H' = H) ∧ (newE v = true → ∃ r b T, y = .tup [.ptr r 0, .sc (.int .i64 0)] ∧ v = (b : Nat) ∧ TrP H' r b [] T ∧ Kp NoB H H' ∧ ∀ x, T x → H.length ≤ x) := by
  refine AFn.conv (wNew v H) ?_
  rintro y H' ⟨h1, h2⟩
  refine ⟨y, ⟨h1, fun hv => ?_⟩, fun _ _ _ h => h⟩
  obtain ⟨r, nb, mb, cap, b, s, rfl, hb, hl, hT, k1, k2, k3, k4⟩ := h2 hv
  have hs : s = ⟨[leafN root0], []⟩ := by
    simp [leafF, big] at hl
    exact hl.symm
  subst hs
  have hlf : LfR [leafN root0] 0 root0 [] [0] := ⟨_, rfl, rfl, rfl, List.Perm.refl _, rfl, rfl⟩
  exact ⟨r, b, fun x => x = r ∨ x = nb ∨ x = mb, rfl, hb, ⟨nb, mb, cap, _, [], [0], ⟨hT, .inl ⟨Nat.zero_le _, hlf⟩, ⟨List.Perm.refl _, by simp [big]⟩, ⟨root_right', by decide, fun r hr => (by cases hr), by simp⟩, List.nodup_nil, List.Perm.refl _⟩, fun x => Iff.rfl⟩, toNo k4, fun x hx => by omega⟩
section
variable {H : List Bk} {r b : Nat} {S : List Pr} {T : Nat → Prop}
theorem TrQ.b1 {nb mb cap : Nat} {s : Ar} {es : List Pr} {I : List Nat} (h : TrQ H r b nb mb cap s es I S) : 1 ≤ b := h.tr.b0.1
/-- What is done stays with the tree. -/
theorem Stp3.to {nb mb nb' : Nat} {H' : List Bk} (h : Stp3 r nb mb H H' nb') (hT : ∀ x, T x ↔ x = r ∨ x = nb ∨ x = mb) : Kp T H H' ∧ ∀ x, (x = r ∨ x = nb' ∨ x = mb) → T x ∨ H.length ≤ x := by
  refine ⟨h.kp.weak fun x hx => (hT x).2 hx, ?_⟩
  rintro x (rfl | rfl | rfl)
  · exact .inl ((hT _).2 (.inl rfl))
  · rcases h.nb with e | e
    · exact .inl ((hT _).2 (.inr (.inl e)))
    · exact .inr e
  · exact .inl ((hT _).2 (.inr (.inr rfl)))
def insS (S : List Pr) (rc : Pr) : List Pr := if insE S rc = 0 then rc :: S else S
theorem insE_perm {S' : List Pr} (hn : (S'.map Pr.id).Nodup) (hp : S.Perm S') (rc : Pr) : insE S rc = insE S' rc := by
  unfold insE
  rw [pfnd_perm hn hp]
theorem insE_zero {rc : Pr} (h : insE S rc = 0) : fits rc.at_ = true ∧ ∀ t ∈ S, t.id ≠ rc.id := by
  unfold insE at h
  split at h
  · rename_i hf
    split at h
    · cases h
    · rename_i hp
      refine ⟨hf, pfnd_none ?_⟩
      simpa using hp
  · cases h
theorem TrQ.put {nb mb cap : Nat} {s : Ar} {es : List Pr} {I : List Nat} (h : TrQ H r b nb mb cap s es I S) {rc : Pr} (hf : fits rc.at_ = true) (hi : ∀ t ∈ S, t.id ≠ rc.id) (hl : S.length < 100000) : ∃ s' I', putT b 18 s 0 rc = some s' ∧ Rep b s'.A 16 0 root0 (rc :: S) I' ∧ Fit s' I' [] ∧ Ok 16 root0 (rc :: S) ∧ ((rc :: S).map Pr.id).Nodup := by
  have hO : Ok 16 root0 (rc :: S) := ⟨root_right', by decide, fun t ht => by
    rcases List.mem_cons.1 ht with rfl | ht
    · exact un_root hf
    · exact h.ok.u t ht, by simp; omega⟩
  obtain ⟨s', I', p1, p2, p3, p4⟩ := put_ok h.b1 16 (Nat.le_refl _) 17 18 0 root0 S I [] s rc (by omega) (by omega) hO h.rep h.fit cap_big
  refine ⟨s', I', p1, p2, p3, hO, ?_⟩
  rw [List.map_cons, List.nodup_cons]
  exact ⟨fun e => by
    obtain ⟨t, ht1, ht2⟩ := List.mem_map.1 e
    exact hi t ht1 ht2, h.ids⟩
theorem TrQ.drop {nb mb cap : Nat} {s : Ar} {es : List Pr} {I : List Nat} (h : TrQ H r b nb mb cap s es I S) {rc : Pr} (hr : rc ∈ S) : ∃ s' I', dropF b 18 s 0 rc = some s' ∧ Rep b s'.A 16 0 root0 (lessP S rc.id) I' ∧ Fit s' I' [] ∧ Ok 16 root0 (lessP S rc.id) ∧ ((lessP S rc.id).map Pr.id).Nodup ∧ 0 < s'.A.length := by
  obtain ⟨s', I', p1, p2, p3, p4, p5⟩ := drop_ok h.b1 16 18 0 root0 S I [] s rc (by omega) (Nat.le_refl _) h.ok h.ids hr h.rep h.fit
  exact ⟨s', I', p1, p2, p3, h.ok.sub (fun t ht => (List.mem_filter.1 ht).1) (List.length_filter_le _ _), List.Nodup.sublist (List.Sublist.map _ List.filter_sublist) h.ids, by rw [p5]; exact h.pos⟩
theorem pInsert (ht : TrP H r b S T) (rc : Pr) (hl : S.length < 100000) : AFn Try.prog 17 [.ptr r 0, rc.v] H fun y H' => y = .sc (.int .i64 (insE S rc)) ∧ Kp T H H' ∧ ∃ T', TrP H' r b (insS S rc) T' ∧ ∀ x, T' x → T x ∨ H.length ≤ x := by
  obtain ⟨nb, mb, cap, s, es, I, h, hT⟩ := ht
  have he := insE_perm h.ids h.es rc
  have hW := wInsert h.tr h.pos rc (fun e => by
    obtain ⟨e1, e2⟩ := insE_zero (he ▸ e)
    obtain ⟨s', I', p1, _⟩ := h.put e1 e2 hl
    exact ⟨s', p1⟩)
  refine AFn.conv hW ?_
  rintro y H' ⟨rfl, nb', cap', s', es', t1, t2, t3, t4⟩
  rw [he] at t3 t4 ⊢
  obtain ⟨k1, k2⟩ := t2.to hT
  refine ⟨_, ⟨rfl, k1, fun x => x = r ∨ x = nb' ∨ x = mb, ?_, k2⟩, fun _ _ _ h => h⟩
  unfold insS
  by_cases e : insE S rc = 0
  · rw [if_pos e]
    obtain ⟨p1, rfl⟩ := t3 e
    obtain ⟨e1, e2⟩ := insE_zero e
    obtain ⟨s2, I', q1, q2, q3, q4, q5⟩ := h.put e1 e2 hl
    rw [p1] at q1
    cases q1
    exact ⟨nb', mb, cap', s', _, I', ⟨t1, q2, q3, q4, q5, (List.perm_append_singleton _ _).trans (h.es.cons rc)⟩, fun x => Iff.rfl⟩
  · rw [if_neg e]
    obtain ⟨rfl, rfl⟩ := t4 e
    exact ⟨nb', mb, cap', s', es', I, ⟨t1, h.rep, h.fit, h.ok, h.ids, h.es⟩, fun x => Iff.rfl⟩
theorem lessP_no {k : Int} (h : ∀ t ∈ S, t.id ≠ k) : lessP S k = S := List.filter_eq_self.2 fun t ht => by simpa using h t ht
theorem pDelete (ht : TrP H r b S T) (k : Int) : AFn Try.prog 18 [.ptr r 0, .sc (.int .i64 k)] H fun y H' => y = .sc (.int .i64 (delE S k)) ∧ Kp T H H' ∧ ∃ T', TrP H' r b (lessP S k) T' ∧ ∀ x, T' x → T x ∨ H.length ≤ x := by
  obtain ⟨nb, mb, cap, s, es, I, h, hT⟩ := ht
  have hpf := pfnd_perm h.ids h.es k
  have hen : (es.map Pr.id).Nodup := (h.es.map Pr.id).nodup_iff.2 h.ids
  have hW := wDelete h.tr h.pos hen k (fun rc e => by
    rw [hpf] at e
    obtain ⟨e1, rfl⟩ := pfnd_some e
    obtain ⟨s', I', p1, _⟩ := h.drop e1
    exact ⟨s', p1⟩)
  refine AFn.conv hW ?_
  rintro y H' ⟨rfl, s', es', t1, t2, t3, t4⟩
  rw [hpf] at t3 t4
  unfold delE
  rw [hpf]
  obtain ⟨k1, k2⟩ := t2.to hT
  refine ⟨_, ⟨rfl, k1, fun x => x = r ∨ x = nb ∨ x = mb, ?_, k2⟩, fun _ _ _ h => h⟩
  cases hp : pfnd S k with
  | none =>
    obtain ⟨rfl, rfl⟩ := t4 hp
    rw [lessP_no (pfnd_none hp)]
    exact ⟨nb, mb, cap, s', es', I, ⟨t1, h.rep, h.fit, h.ok, h.ids, h.es⟩, fun x => Iff.rfl⟩
  | some rc =>
    obtain ⟨p1, rfl⟩ := t3 rc hp
    obtain ⟨e1, rfl⟩ := pfnd_some hp
    obtain ⟨s2, I', q1, q2, q3, q4, q5, _⟩ := h.drop e1
    rw [p1] at q1
    cases q1
    exact ⟨nb, mb, cap, s', _, I', ⟨t1, q2, q3, q4, q5, h.es.filter _⟩, fun x => Iff.rfl⟩
def chgS (S : List Pr) (rc : Pr) : List Pr := if chgE S rc = 0 then rc :: lessP S rc.id else S
theorem pChange (ht : TrP H r b S T) (rc : Pr) (hl : S.length < 100000) : AFn Try.prog 28 [.ptr r 0, rc.v] H fun y H' => y = .sc (.int .i64 (chgE S rc)) ∧ Kp T H H' ∧ ∃ T', TrP H' r b (chgS S rc) T' ∧ ∀ x, T' x → T x ∨ H.length ≤ x := by
  obtain ⟨nb, mb, cap, s, es, I, h, hT⟩ := ht
  have hpf := pfnd_perm h.ids h.es rc.id
  have hen : (es.map Pr.id).Nodup := (h.es.map Pr.id).nodup_iff.2 h.ids
  have both : ∀ old, pfnd S rc.id = some old → fits rc.at_ = true → ∃ s1 s' I', dropF b 18 s 0 old = some s1 ∧ 0 < s1.A.length ∧ putT b 18 s1 0 rc = some s' ∧ Rep b s'.A 16 0 root0 (rc :: lessP S rc.id) I' ∧ Fit s' I' [] ∧ Ok 16 root0 (rc :: lessP S rc.id) ∧ ((rc :: lessP S rc.id).map Pr.id).Nodup := by
    intro old e hf
    obtain ⟨e1, e2⟩ := pfnd_some e
    obtain ⟨s1, I1, q1, q2, q3, q4, q5, q6⟩ := h.drop e1
    rw [e2] at q2 q4 q5
    have hll : (lessP S rc.id).length ≤ S.length := List.length_filter_le _ _
    have hO : Ok 16 root0 (rc :: lessP S rc.id) := ⟨root_right', by decide, fun t ht => by
      rcases List.mem_cons.1 ht with rfl | ht
      · exact un_root hf
      · exact q4.u t ht, by simp; omega⟩
    obtain ⟨s', I', p1, p2, p3, p4⟩ := put_ok h.b1 16 (Nat.le_refl _) 17 18 0 root0 (lessP S rc.id) I1 [] s1 rc (by omega) (by omega) hO q2 q3 cap_big
    refine ⟨s1, s', I', q1, q6, p1, p2, p3, hO, ?_⟩
    rw [List.map_cons, List.nodup_cons]
    exact ⟨fun e => by
      obtain ⟨t, ht1, ht2⟩ := List.mem_map.1 e
      have := (List.mem_filter.1 ht1).2
      simp at this
      exact this ht2, q5⟩
  have hW := wChange h.tr h.pos hen rc (fun old e hf => by
    rw [hpf] at e
    obtain ⟨s1, s', I', p1, p2, p3, _⟩ := both old e hf
    exact ⟨s1, s', p1, p2, p3⟩)
  refine AFn.conv hW ?_
  rintro y H' ⟨rfl, nb', cap', s', es', t1, t2, t3, t4⟩
  have hce : chgE es rc = chgE S rc := by unfold chgE; rw [hpf]
  rw [hpf] at t3
  rw [hce] at t4 ⊢
  obtain ⟨k1, k2⟩ := t2.to hT
  refine ⟨_, ⟨rfl, k1, fun x => x = r ∨ x = nb' ∨ x = mb, ?_, k2⟩, fun _ _ _ h => h⟩
  unfold chgS
  by_cases e : chgE S rc = 0
  · rw [if_pos e]
    unfold chgE at e
    split at e
    · rename_i hf
      split at e
      · rename_i hp
        obtain ⟨old, ho⟩ := Option.isSome_iff_exists.1 hp
        obtain ⟨s1, p1, p2, rfl⟩ := t3 old ho hf
        obtain ⟨s1', s2, I', q1, q2, q3, q4, q5, q6, q7⟩ := both old ho hf
        rw [p1] at q1
        cases q1
        rw [p2] at q3
        cases q3
        exact ⟨nb', mb, cap', s', _, I', ⟨t1, q4, q5, q6, q7, (List.perm_append_singleton _ _).trans ((h.es.filter _).cons rc)⟩, fun x => Iff.rfl⟩
      · cases e
    · cases e
  · rw [if_neg e]
    obtain ⟨rfl, rfl⟩ := t4 e
    exact ⟨nb', mb, cap', s', es', I, ⟨t1, h.rep, h.fit, h.ok, h.ids, h.es⟩, fun x => Iff.rfl⟩
theorem pFind (ht : TrP H r b S T) (k : Int) : AFn Try.prog 33 [.ptr r 0, .sc (.int .i64 k)] H fun y H' => y = pfndV S k ∧ Kp NoB H H' := by
  obtain ⟨nb, mb, cap, s, es, I, h, hT⟩ := ht
  refine AFn.conv (wFind h.tr h.pos k) ?_
  rintro y H' ⟨rfl, k1⟩
  refine ⟨_, ⟨?_, toNo k1⟩, fun _ _ _ h => h⟩
  unfold pfndV
  rw [pfnd_perm h.ids h.es]
def winL (rc : Re) (S : List Pr) : List Pr := if rightR rc then sortP (S.filter fun x => hasR rc x.at_) else []
theorem TrQ.wind {nb mb cap : Nat} {s : Ar} {es : List Pr} {I : List Nat} (h : TrQ H r b nb mb cap s es I S) {rc : Re} (hrc : rightR rc = true) : ∃ L, windF s.A rc 18 0 = some L ∧ L.Perm (S.filter fun x => hasR rc x.at_) ∧ L.length ≤ 1000000000000 := by
  obtain ⟨L, h1, h2⟩ := wind_ok hrc 16 18 0 root0 S I (by omega) (Nat.le_refl _) h.ok h.rep
  refine ⟨L, h1, h2, ?_⟩
  rw [h2.length_eq]
  have : (S.filter fun x => hasR rc x.at_).length ≤ S.length := List.length_filter_le _ _
  have := h.ok.len
  omega
theorem win_sorted {rc : Re} {L ys : List Pr} (hn : (S.map Pr.id).Nodup) (hL : L.Perm (S.filter fun x => hasR rc x.at_)) (hs : SortedP L ys) (hrc : rightR rc = true) : ys = winL rc S := by
  rw [winL, if_pos hrc]
  exact sortP_unique (List.Nodup.sublist (List.Sublist.map _ List.filter_sublist) hn) (hs.1.trans hL) hs.2
theorem pWindow (ht : TrP H r b S T) (rc : Re) : AFn Try.prog 23 [.ptr r 0, rc.v] H fun y H' => y = lV (winL rc S) ∧ Kp NoB H H' := by
  obtain ⟨nb, mb, cap, s, es, I, h, hT⟩ := ht
  refine AFn.conv (wWindow h.tr h.pos rc fun hrc => by
    obtain ⟨L, h1, _, h3⟩ := h.wind hrc
    exact ⟨L, h1, h3⟩) ?_
  rintro y H' ⟨ys, rfl, k1, k2, k3⟩
  refine ⟨_, ⟨?_, toNo k3⟩, fun _ _ _ h => h⟩
  cases hrc : rightR rc with
  | false => rw [k1 hrc, winL, if_neg (by simp [hrc])]
  | true =>
    obtain ⟨L, h1, h2, _⟩ := h.wind hrc
    obtain ⟨L', h3, h4⟩ := k2 hrc
    rw [h1] at h3
    cases h3
    rw [win_sorted h.ids h2 h4 hrc]
theorem grid_all (hu : ∀ t ∈ S, Un root0 t.at_) : winL gridR S = sortP S := by
  rw [winL, if_pos (by decide), List.filter_eq_self.2]
  intro t ht
  have := (hu t ht).1
  simp only [fits, inside, Bool.and_eq_true, decide_eq_true_eq] at this
  refine hasR_iff.2 ⟨by decide, ?_⟩
  simp only [gridR]
  omega
theorem pAll (ht : TrP H r b S T) : AFn Try.prog 21 [.ptr r 0] H fun y H' => y = lV (sortP S) ∧ Kp NoB H H' := by
  obtain ⟨nb, mb, cap, s, es, I, h, hT⟩ := ht
  have hg : rightR gridR = true := by decide
  obtain ⟨L, h1, h2, h3⟩ := h.wind hg
  refine AFn.conv (wAll h.tr h.pos ⟨L, h1, h3⟩) ?_
  rintro y H' ⟨ys, rfl, ⟨L', k1, k2⟩, k3⟩
  refine ⟨_, ⟨?_, toNo k3⟩, fun _ _ _ h => h⟩
  rw [h1] at k1
  cases k1
  rw [win_sorted h.ids h2 k2 hg, grid_all h.ok.u]
theorem pCount (ht : TrP H r b S T) (rc : Re) : AFn Try.prog 25 [.ptr r 0, rc.v] H fun y H' => y = .sc (.int .i64 (winL rc S).length) ∧ Kp NoB H H' := by
  obtain ⟨nb, mb, cap, s, es, I, h, hT⟩ := ht
  refine AFn.conv (wCount h.tr h.pos rc fun hrc => by
    obtain ⟨L, h1, _, h3⟩ := h.wind hrc
    exact ⟨L, h1, h3⟩) ?_
  rintro y H' ⟨n, rfl, k1, k2, k3⟩
  refine ⟨_, ⟨?_, toNo k3⟩, fun _ _ _ h => h⟩
  cases hrc : rightR rc with
  | false => rw [k1 hrc, winL, if_neg (by simp [hrc])]; rfl
  | true =>
    obtain ⟨L, h1, h2, _⟩ := h.wind hrc
    obtain ⟨L', h3, h4⟩ := k2 hrc
    rw [h1] at h3
    cases h3
    rw [h4, h2.length_eq, winL, if_pos hrc, (sortP_perm _).length_eq]
theorem pLen (ht : TrP H r b S T) : AFn Try.prog 27 [.ptr r 0] H fun y H' => y = .sc (.int .i64 S.length) ∧ H' = H := by
  obtain ⟨nb, mb, cap, s, es, I, h, hT⟩ := ht
  rw [← h.es.length_eq]
  exact wLen h.tr h.pos
theorem pNodes (ht : TrP H r b S T) : AFn Try.prog 19 [.ptr r 0] H fun y H' => y = .sc (.int .i64 (shapeP b 16 root0 S).1) ∧ H' = H := by
  obtain ⟨nb, mb, cap, s, es, I, h, hT⟩ := ht
  have hb : big = 100000000000 := rfl
  have h1 := h.fit.length
  have h2 := h.fit.len
  have h3 := (shape_ok 16 18 0 root0 S I (by omega) h.rep).1
  simp at h1
  have e : ((s.A.length : Int) - s.fr.length) = ((shapeP b 16 root0 S).1 : Nat) := by omega
  rw [← e]
  exact wNodes h.tr h.pos (by omega) (by omega)
theorem pDepth (ht : TrP H r b S T) : AFn Try.prog 20 [.ptr r 0] H fun y H' => y = .sc (.int .i64 (shapeP b 16 root0 S).2) ∧ Kp NoB H H' := by
  obtain ⟨nb, mb, cap, s, es, I, h, hT⟩ := ht
  refine AFn.conv (wDepth h.tr h.pos (shape_ok 16 18 0 root0 S I (by omega) h.rep).2) ?_
  rintro y H' ⟨rfl, k⟩
  exact ⟨_, ⟨rfl, toNo k⟩, fun _ _ _ h => h⟩
end
end Go.Proofs.Ytmjnffjacgjfmaa
