/- Shapes, and the nodes of a quadtree of shapes over the abstract memory: plain. -/
import Derived.Test.YtmjnffjacgjfmaaHc
namespace Go.Proofs.Ytmjnffjacgjfmaa
set_option linter.all false
open Go.RowKit AM
set_option maxRecDepth 10000

structure Sh where
  id : Int
  box : Re
  lab : Int
  deriving DecidableEq, Inhabited
namespace Sh
def cs (s : Sh) : List V := [.sc (.int .i64 s.id), .sc (.int .i64 s.box.x0), .sc (.int .i64 s.box.y0), .sc (.int .i64 s.box.x1), .sc (.int .i64 s.box.y1), .sc (.int .i64 s.lab)]
def v (s : Sh) : V := .agg s.cs
def zero : Sh := ⟨0, ⟨0, 0, 0, 0⟩, 0⟩
end Sh
def hm (s : Sh) : Ce := homeOf s.box
def entS (s : Sh) : Value × V := (.int .i64 s.id, s.v)

/-! ## Maps of shapes by their numbers -/
def sfind (k : Int) : List Sh → Nat → Option (Nat × Sh)
  | [], _ => none
  | e :: es, i => if k = e.id then some (i, e) else sfind k es (i + 1)
theorem mfind_s {k : Int} : ∀ {es : List Sh} {i : Nat}, mfind (.int .i64) (.int .i64 k) (es.map entS) i = some ((sfind k es i).map fun p => (p.1, p.2.v))
  | [], i => rfl
  | e :: es, i => by
    have : Instr.sameNow (.int .i64) (.int .i64 k) (.int .i64 e.id) = some (k == e.id) := rfl
    simp only [List.map_cons, entS, mfind, sfind, this]
    by_cases h : k = e.id
    · simp [h]
    · have : (k == e.id) = false := by simpa using h
      rw [this, if_neg h]
      exact mfind_s
theorem sfind_none {k : Int} : ∀ {es : List Sh} {i : Nat}, (∀ e ∈ es, e.id ≠ k) → sfind k es i = none
  | [], _, _ => rfl
  | e :: es, i, h => by
    unfold sfind
    rw [if_neg (fun e' => h e (by simp) e'.symm)]
    exact sfind_none fun x hx => h x (by simp [hx])
theorem sfind_some {s : Sh} : ∀ {es : List Sh} {i : Nat}, s ∈ es → (es.map Sh.id).Nodup → ∃ j, sfind s.id es i = some (i + j, s) ∧ es.eraseIdx j = es.filter fun t => !decide (t.id = s.id)
  | e :: es, i, h, hn => by
    rw [List.map_cons, List.nodup_cons] at hn
    unfold sfind
    by_cases he : s.id = e.id
    · have hs : s = e := by
        rcases List.mem_cons.1 h with h | h
        · exact h
        · exact absurd (List.mem_map.2 ⟨s, h, he⟩) hn.1
      subst hs
      refine ⟨0, by simp, ?_⟩
      rw [List.eraseIdx_cons_zero, List.filter_cons]
      simp only [decide_true, Bool.not_true, Bool.false_eq_true, if_false]
      refine (List.filter_eq_self.2 fun x hx => ?_).symm
      have : x.id ≠ s.id := fun e => hn.1 (List.mem_map.2 ⟨x, hx, e⟩)
      simpa using this
    · rw [if_neg he]
      have hm : s ∈ es := by
        rcases List.mem_cons.1 h with rfl | h
        · exact absurd rfl he
        · exact h
      obtain ⟨j, h1, h2⟩ := sfind_some (i := i + 1) hm hn.2
      refine ⟨j + 1, by rw [h1]; congr 2; omega, ?_⟩
      rw [List.eraseIdx_cons_succ, h2, List.filter_cons, if_pos]
      simpa using fun e => he e.symm
theorem sfind_mem {k : Int} {s : Sh} : ∀ {es : List Sh} {i j : Nat}, sfind k es i = some (j, s) → s ∈ es ∧ s.id = k
  | e :: es, i, j, h => by
    unfold sfind at h
    by_cases he : k = e.id
    · rw [if_pos he] at h
      cases h
      exact ⟨by simp, he.symm⟩
    · rw [if_neg he] at h
      obtain ⟨h1, h2⟩ := sfind_mem h
      exact ⟨by simp [h1], h2⟩
theorem sfind_nil {k : Int} : ∀ {es : List Sh} {i : Nat}, sfind k es i = none → ∀ e ∈ es, e.id ≠ k
  | [], _, _, _, h => by cases h
  | e :: es, i, h, x, hx => by
    unfold sfind at h
    by_cases he : k = e.id
    · rw [if_pos he] at h; cases h
    · rw [if_neg he] at h
      rcases List.mem_cons.1 hx with rfl | hx
      · exact fun e' => he e'.symm
      · exact sfind_nil h x hx

/-! ## Blocks that stay -/
/-- All blocks but some, and but walks over maps, stay. -/
def Kp (I : Nat → Prop) (H H' : List Bk) : Prop := ∀ i b, ¬ I i → H[i]? = some b → (∀ n l cu, b ≠ .iter n l cu) → H'[i]? = some b
section
variable {I J : Nat → Prop} {H H1 H2 : List Bk}
theorem Kp.refl : Kp I H H := fun _ _ _ h _ => h
theorem Kp.trans (h : Kp I H H1) (h1 : Kp I H1 H2) : Kp I H H2 := fun i b hi hb hn => h1 i b hi (h i b hi hb hn) hn
theorem Kp.weak (h : Kp I H H1) (hs : ∀ x, I x → J x) : Kp J H H1 := fun i b hi hb hn => h i b (fun e => hi (hs i e)) hb hn
theorem hget {L : List Bk} {i : Nat} {b : Bk} (h : H[i]? = some b) : (H ++ L)[i]? = some b := by
  rw [List.getElem?_append_left (List.getElem?_eq_some_iff.1 h).1]
  exact h
theorem Kp.app {L : List Bk} (h : Kp I H H1) : Kp I H (H1 ++ L) := fun i b hi hb hn => hget (h i b hi hb hn)
theorem Kp.set {m : Nat} {k : Bk} (h : Kp I H H1) (hm : I m) : Kp I H (H1.set m k) := fun i b hi hb hn => by
  rw [List.getElem?_set_ne (by rintro rfl; exact hi hm)]
  exact h i b hi hb hn
theorem hkill {m i : Nat} {b : Bk} (h : H[i]? = some b) (hn : ∀ n l cu, b ≠ .iter n l cu) : (killIt m H)[i]? = some b := by
  unfold killIt
  rw [List.getElem?_map, h]
  cases b with
  | iter n l cu => exact absurd rfl (hn n l cu)
  | _ => rfl
theorem hkill_len {m : Nat} : (killIt m H).length = H.length := by simp [killIt]
theorem Kp.killed {m : Nat} {k : Bk} (h : Kp I H H1) (hm : I m) : Kp I H ((killIt m H1).set m k) := fun i b hi hb hn => by
  rw [List.getElem?_set_ne (by rintro rfl; exact hi hm)]
  exact hkill (h i b hi hb hn) hn
/-- What came later may turn. -/
theorem Kp.new (h : Kp (fun x => I x ∨ H.length ≤ x) H H1) : Kp I H H1 := fun i b hi hb hn => h i b (by
  rintro (h | h)
  · exact hi h
  · have := (List.getElem?_eq_some_iff.1 hb).1
    omega) hb hn
theorem Kp.cells {i : Nat} {cs : List SV} (h : Kp I H H1) (hi : ¬ I i) (hb : H[i]? = some (.cells cs)) : H1[i]? = some (.cells cs) := h i _ hi hb fun _ _ _ e => by cases e
theorem Kp.map {i : Nat} {es : List (Value × V)} (h : Kp I H H1) (hi : ¬ I i) (hb : H[i]? = some (.map es)) : H1[i]? = some (.map es) := h i _ hi hb fun _ _ _ e => by cases e
end

/-! ## Nodes -/
def kidV : Option Nat → V
  | none => .sc (.pointer none)
  | some b => .ptr b 0
def nodeCs (c : Ce) (k : Nat → Option Nat) (n m : Nat) : List SV := [.v (.sc (.int .i64 c.l)), .v (.sc (.int .i64 c.x)), .v (.sc (.int .i64 c.y)), .v (kidV (k 0)), .v (kidV (k 1)), .v (kidV (k 2)), .v (kidV (k 3)), .v (.sc (.int .i64 n)), .v (.map m)]
def at' (c : Ce) (S : List Sh) : List Sh := S.filter fun s => decide (hm s = c)
def sub' (c : Ce) (S : List Sh) : List Sh := S.filter fun s => underC c (hm s)
/-- A child of a node: none where nothing is below. -/
def Kd (N : List Sh → Nat → (Nat → Prop) → Prop) (S : List Sh) (k : Option Nat) (J : Nat → Prop) : Prop := (S = [] ∧ k = none ∧ ∀ x, ¬ J x) ∨ (S ≠ [] ∧ ∃ b, k = some b ∧ N S b J)
/-- A node at block b, with what is below it. -/
def Nd (H : List Bk) : Nat → Ce → List Sh → Nat → (Nat → Prop) → Prop
  | 0, _, _, _, _ => False
  | d + 1, c, S, b, I => ∃ (m : Nat) (es : List Sh) (k : Nat → Option Nat) (J : Nat → Nat → Prop),
      H[b]? = some (.cells (nodeCs c k S.length m)) ∧ H[m]? = some (.map (es.map entS)) ∧ es.Perm (at' c S) ∧ (∀ x, I x ↔ x = b ∨ x = m ∨ ∃ i, i < 4 ∧ J i x) ∧
      (∀ i, i < 4 → ¬ J i b ∧ ¬ J i m ∧ ∀ j x, j < 4 → i ≠ j → J i x → ¬ J j x) ∧
      ∀ i, i < 4 → Kd (Nd H d (childOf c (i : Nat))) (sub' (childOf c (i : Nat)) S) (k i) (J i)
theorem Nd.lt {H : List Bk} : ∀ {d : Nat} {c : Ce} {S : List Sh} {b : Nat} {I : Nat → Prop}, Nd H d c S b I → ∀ x, I x → x < H.length ∧ ∀ n l cu, H[x]? ≠ some (.iter n l cu)
  | 0, _, _, _, _, h, _, _ => h.elim
  | d + 1, c, S, b, I, h, x, hx => by
    obtain ⟨m, es, k, J, h1, h2, h3, h4, h5, h6⟩ := h
    rcases (h4 x).1 hx with rfl | rfl | ⟨i, hi, hj⟩
    · exact ⟨(List.getElem?_eq_some_iff.1 h1).1, fun n l cu e => by rw [h1] at e; cases e⟩
    · exact ⟨(List.getElem?_eq_some_iff.1 h2).1, fun n l cu e => by rw [h2] at e; cases e⟩
    · rcases h6 i hi with ⟨_, _, h7⟩ | ⟨_, b', _, h7⟩
      · exact absurd hj (h7 x)
      · exact Nd.lt h7 x hj
theorem Nd.self {H : List Bk} {d : Nat} {c : Ce} {S : List Sh} {b : Nat} {I : Nat → Prop} (h : Nd H d c S b I) : I b := by
  cases d with
  | zero => exact h.elim
  | succ d =>
    obtain ⟨m, es, k, J, h1, h2, h3, h4, h5, h6⟩ := h
    exact (h4 b).2 (.inl rfl)
theorem Nd.keep {H H' : List Bk} {T : Nat → Prop} (hk : Kp T H H') : ∀ {d : Nat} {c : Ce} {S : List Sh} {b : Nat} {I : Nat → Prop}, Nd H d c S b I → (∀ x, I x → ¬ T x) → Nd H' d c S b I
  | 0, _, _, _, _, h, _ => h
  | d + 1, c, S, b, I, h, hT => by
    obtain ⟨m, es, k, J, h1, h2, h3, h4, h5, h6⟩ := h
    refine ⟨m, es, k, J, hk.cells (hT b ((h4 b).2 (.inl rfl))) h1, hk.map (hT m ((h4 m).2 (.inr (.inl rfl)))) h2, h3, h4, h5, fun i hi => ?_⟩
    rcases h6 i hi with h7 | ⟨h7, b', h8, h9⟩
    · exact .inl h7
    · exact .inr ⟨h7, b', h8, Nd.keep hk h9 fun x hx => hT x ((h4 x).2 (.inr (.inr ⟨i, hi, hx⟩)))⟩
theorem Nd.perm {H : List Bk} : ∀ {d : Nat} {c : Ce} {S S' : List Sh} {b : Nat} {I : Nat → Prop}, Nd H d c S b I → S.Perm S' → Nd H d c S' b I
  | 0, _, _, _, _, _, h, _ => h
  | d + 1, c, S, S', b, I, h, hp => by
    obtain ⟨m, es, k, J, h1, h2, h3, h4, h5, h6⟩ := h
    refine ⟨m, es, k, J, by rw [← hp.length_eq]; exact h1, h2, h3.trans (hp.filter _), h4, h5, fun i hi => ?_⟩
    have hq : (sub' (childOf c (i : Nat)) S).Perm (sub' (childOf c (i : Nat)) S') := hp.filter _
    rcases h6 i hi with ⟨h7, h8⟩ | ⟨h7, b', h8, h9⟩
    · refine .inl ⟨?_, h8⟩
      rw [h7] at hq
      exact hq.nil_eq.symm
    · refine .inr ⟨fun e => h7 ?_, b', h8, Nd.perm h9 hq⟩
      rw [e] at hq
      exact hq.eq_nil
theorem Nd.congr {H : List Bk} : ∀ {d : Nat} {c : Ce} {S : List Sh} {b : Nat} {I I' : Nat → Prop}, Nd H d c S b I → (∀ x, I x ↔ I' x) → Nd H d c S b I'
  | 0, _, _, _, _, _, h, _ => h
  | d + 1, c, S, b, I, I', h, hI => by
    obtain ⟨m, es, k, J, h1, h2, h3, h4, h5, h6⟩ := h
    exact ⟨m, es, k, J, h1, h2, h3, fun x => (hI x).symm.trans (h4 x), h5, h6⟩

theorem Nd.fresh {H : List Bk} {d : Nat} {c : Ce} {b m : Nat} (hd : 0 < d) (h1 : H[b]? = some (.cells (nodeCs c (fun _ => none) 0 m))) (h2 : H[m]? = some (.map [])) (hbm : b ≠ m) : Nd H d c [] b fun x => x = b ∨ x = m := by
  cases d with
  | zero => omega
  | succ d =>
    refine ⟨m, [], fun _ => none, fun _ _ => False, h1, h2, .nil, fun x => ?_, fun i hi => ⟨id, id, fun _ _ _ _ h => h.elim⟩, fun i hi => .inl ⟨rfl, rfl, fun _ h => h⟩⟩
    simp
/-! ## What stands where -/
theorem sub_cons {c : Ce} {s : Sh} {S : List Sh} : sub' c (s :: S) = if underC c (hm s) = true then s :: sub' c S else sub' c S := by
  unfold sub'
  rw [List.filter_cons]
theorem at_cons {c : Ce} {s : Sh} {S : List Sh} : at' c (s :: S) = if hm s = c then s :: at' c S else at' c S := by
  unfold at'
  rw [List.filter_cons]
  simp
theorem not_under_child {c : Ce} {s : Sh} {i : Nat} (hi : i < 4) (h : hm s = c) : underC (childOf c (i : Nat)) (hm s) = false := by
  rw [Bool.eq_false_iff]
  intro e
  exact (child_under (i := (i : Nat)) (by omega) e).2.1 h.symm
theorem under_child_iff {c h : Ce} {i : Nat} (hi : i < 4) (hu : underC c h = true) (hne : c ≠ h) : underC (childOf c (i : Nat)) h = true ↔ wayOf c h = (i : Nat) := by
  refine ⟨fun e => (child_under (i := (i : Nat)) (by omega) e).2.2, fun e => ?_⟩
  rw [← e]
  exact under_child hu hne
theorem way_nat (c h : Ce) : ∃ i : Nat, i < 4 ∧ wayOf c h = (i : Nat) := by
  have := way_range c h
  exact ⟨(wayOf c h).toNat, by omega, by omega⟩
def updN {α : Type} (f : Nat → α) (i : Nat) (x : α) : Nat → α := fun j => if j = i then x else f j
theorem updN_self {α : Type} {f : Nat → α} {i : Nat} {x : α} : updN f i x i = x := by simp [updN]
theorem updN_other {α : Type} {f : Nat → α} {i j : Nat} {x : α} (h : j ≠ i) : updN f i x j = f j := by simp [updN, h]
/-- A shape comes to a node that is its home. -/
theorem Nd.here {H H' : List Bk} {d : Nat} {c : Ce} {S : List Sh} {s : Sh} {b m : Nat} {es : List Sh} {k : Nat → Option Nat} {J : Nat → Nat → Prop} {I : Nat → Prop}
    (h1 : H'[b]? = some (.cells (nodeCs c k (S.length + 1) m))) (h2 : H'[m]? = some (.map ((es ++ [s]).map entS))) (h3 : es.Perm (at' c S)) (h4 : ∀ x, I x ↔ x = b ∨ x = m ∨ ∃ i, i < 4 ∧ J i x) (h5 : ∀ i, i < 4 → ¬ J i b ∧ ¬ J i m ∧ ∀ j x, j < 4 → i ≠ j → J i x → ¬ J j x)
    (h6 : ∀ i, i < 4 → Kd (Nd H d (childOf c (i : Nat))) (sub' (childOf c (i : Nat)) S) (k i) (J i)) (hk : Kp (fun x => x = b ∨ x = m) H H') (hs : hm s = c) : Nd H' (d + 1) c (s :: S) b I := by
  refine ⟨m, es ++ [s], k, J, h1, h2, ?_, h4, h5, fun i hi => ?_⟩
  · rw [at_cons, if_pos hs]
    exact List.perm_append_comm.trans (h3.cons s)
  · rw [sub_cons, not_under_child hi hs]
    simp only [Bool.false_eq_true, if_false]
    rcases h6 i hi with h7 | ⟨h7, b', h8, h9⟩
    · exact .inl h7
    · refine .inr ⟨h7, b', h8, Nd.keep hk h9 fun x hx => ?_⟩
      rintro (rfl | rfl)
      · exact (h5 i hi).1 hx
      · exact (h5 i hi).2.1 hx
/-- A shape comes below a node. -/
theorem Nd.below {H H' : List Bk} {d : Nat} {c : Ce} {S : List Sh} {s : Sh} {b m i b' : Nat} {es : List Sh} {k : Nat → Option Nat} {J : Nat → Nat → Prop} {I J' : Nat → Prop}
    (h1 : H'[b]? = some (.cells (nodeCs c (updN k i (some b')) (S.length + 1) m))) (h2 : H'[m]? = some (.map (es.map entS))) (h3 : es.Perm (at' c S)) (h4 : ∀ x, I x ↔ x = b ∨ x = m ∨ ∃ i, i < 4 ∧ J i x) (h5 : ∀ i, i < 4 → ¬ J i b ∧ ¬ J i m ∧ ∀ j x, j < 4 → i ≠ j → J i x → ¬ J j x)
    (h6 : ∀ i, i < 4 → Kd (Nd H d (childOf c (i : Nat))) (sub' (childOf c (i : Nat)) S) (k i) (J i)) (hb : b < H.length) (hm' : m < H.length) (hk : Kp (fun x => x = b ∨ J i x) H H') (hi : i < 4) (hu : underC c (hm s) = true) (hs : c ≠ hm s) (hw : wayOf c (hm s) = (i : Nat))
    (hN : Nd H' d (childOf c (i : Nat)) (s :: sub' (childOf c (i : Nat)) S) b' J') (hJ : ∀ x, J' x → J i x ∨ H.length ≤ x) : ∃ I', Nd H' (d + 1) c (s :: S) b I' ∧ ∀ x, I' x → I x ∨ H.length ≤ x := by
  have hlt : ∀ j x, j < 4 → J j x → x < H.length := fun j x hj hx => by
    rcases h6 j hj with ⟨_, _, h7⟩ | ⟨_, b', _, h7⟩
    · exact absurd hx (h7 x)
    · exact (Nd.lt h7 x hx).1
  refine ⟨fun x => x = b ∨ x = m ∨ ∃ j, j < 4 ∧ updN J i J' j x, ⟨m, es, updN k i (some b'), updN J i J', h1, h2, ?_, fun x => Iff.rfl, fun j hj => ?_, fun j hj => ?_⟩, fun x hx => ?_⟩
  · rw [at_cons, if_neg (Ne.symm hs)]
    exact h3
  · have old := h5 j hj
    have oldi := h5 i hi
    by_cases e : j = i
    · subst e
      rw [updN_self]
      refine ⟨fun hx => ?_, fun hx => ?_, fun j2 x hj2 hne hx => ?_⟩
      · rcases hJ _ hx with h | h
        · exact old.1 h
        · omega
      · rcases hJ _ hx with h | h
        · exact old.2.1 h
        · omega
      · rw [updN_other (Ne.symm hne)]
        intro hx2
        rcases hJ _ hx with h | h
        · exact old.2.2 j2 x hj2 hne h hx2
        · have := hlt j2 x hj2 hx2
          omega
    · rw [updN_other e]
      refine ⟨old.1, old.2.1, fun j2 x hj2 hne hx => ?_⟩
      by_cases e2 : j2 = i
      · subst e2
        rw [updN_self]
        intro hx2
        rcases hJ _ hx2 with h | h
        · exact old.2.2 j2 x hj2 hne hx h
        · have := hlt j x hj hx
          omega
      · rw [updN_other e2]
        exact old.2.2 j2 x hj2 hne hx
  · by_cases e : j = i
    · subst e
      rw [updN_self, updN_self, sub_cons, if_pos ((under_child_iff hj hu hs).2 hw)]
      exact .inr ⟨by simp, b', rfl, hN⟩
    · have hn : ¬ underC (childOf c (j : Nat)) (hm s) = true := fun h => e (by
        have := (under_child_iff hj hu hs).1 h
        omega)
      rw [updN_other e, updN_other e, sub_cons, if_neg hn]
      rcases h6 j hj with h7 | ⟨h7, b2, h8, h9⟩
      · exact .inl h7
      · refine .inr ⟨h7, b2, h8, Nd.keep hk h9 fun x hx => ?_⟩
        rintro (rfl | h)
        · exact (h5 j hj).1 hx
        · exact (h5 j hj).2.2 i x hi e hx h
  · rcases hx with rfl | rfl | ⟨j, hj, hx⟩
    · exact .inl ((h4 _).2 (.inl rfl))
    · exact .inl ((h4 _).2 (.inr (.inl rfl)))
    · by_cases e : j = i
      · subst e
        rw [updN_self] at hx
        rcases hJ x hx with h | h
        · exact .inl ((h4 x).2 (.inr (.inr ⟨j, hj, h⟩)))
        · exact .inr h
      · rw [updN_other e] at hx
        exact .inl ((h4 x).2 (.inr (.inr ⟨j, hj, hx⟩)))
/-- A shape goes from a node that is its home. -/
def less (S : List Sh) (k : Int) : List Sh := S.filter fun t => !decide (t.id = k)
theorem less_sub {S : List Sh} {k : Int} {c : Ce} : sub' c (less S k) = less (sub' c S) k := by
  unfold sub' less
  rw [List.filter_filter, List.filter_filter]
  congr 1
  funext t
  exact Bool.and_comm _ _
theorem less_at {S : List Sh} {k : Int} {c : Ce} : at' c (less S k) = less (at' c S) k := by
  unfold at' less
  rw [List.filter_filter, List.filter_filter]
  congr 1
  funext t
  exact Bool.and_comm _ _
theorem less_none {S : List Sh} {k : Int} (h : ∀ t ∈ S, t.id ≠ k) : less S k = S := List.filter_eq_self.2 fun t ht => by simpa using h t ht
theorem less_len {s : Sh} {S : List Sh} (h : s ∈ S) (hn : (S.map Sh.id).Nodup) : (less S s.id).length + 1 = S.length := by
  obtain ⟨j, h1, h2⟩ := sfind_some (i := 0) h hn
  have hj : j < S.length := by
    have hlt := h2
    rcases Nat.lt_or_ge j S.length with h | hge
    · exact h
    · rw [List.eraseIdx_of_length_le hge] at h2
      have hm : s ∈ S.filter fun t => !decide (t.id = s.id) := h2 ▸ h
      simp at hm
  unfold less
  rw [← h2, List.length_eraseIdx_of_lt hj]
  omega
theorem nodup_sub {S : List Sh} {p : Sh → Bool} (h : (S.map Sh.id).Nodup) : ((S.filter p).map Sh.id).Nodup := List.Nodup.sublist (List.Sublist.map _ List.filter_sublist) h
theorem id_inj {S : List Sh} (h : (S.map Sh.id).Nodup) {s t : Sh} (hs : s ∈ S) (ht : t ∈ S) (e : s.id = t.id) : s = t := by
  induction S with
  | nil => cases hs
  | cons a S ih =>
    rw [List.map_cons, List.nodup_cons] at h
    rcases List.mem_cons.1 hs with h1 | h1 <;> rcases List.mem_cons.1 ht with h2 | h2
    · rw [h1, h2]
    · subst h1; exact absurd (List.mem_map.2 ⟨t, h2, e.symm⟩) h.1
    · subst h2; exact absurd (List.mem_map.2 ⟨s, h1, e⟩) h.1
    · exact ih h.2 h1 h2
theorem Nd.hence {H H' : List Bk} {d : Nat} {c : Ce} {S : List Sh} {s : Sh} {b m : Nat} {es es' : List Sh} {k : Nat → Option Nat} {J : Nat → Nat → Prop} {I : Nat → Prop}
    (h1 : H'[b]? = some (.cells (nodeCs c k (less S s.id).length m))) (h2 : H'[m]? = some (.map (es'.map entS))) (he : es' = less es s.id) (h3 : es.Perm (at' c S)) (h4 : ∀ x, I x ↔ x = b ∨ x = m ∨ ∃ i, i < 4 ∧ J i x) (h5 : ∀ i, i < 4 → ¬ J i b ∧ ¬ J i m ∧ ∀ j x, j < 4 → i ≠ j → J i x → ¬ J j x)
    (h6 : ∀ i, i < 4 → Kd (Nd H d (childOf c (i : Nat))) (sub' (childOf c (i : Nat)) S) (k i) (J i)) (hk : Kp (fun x => x = b ∨ x = m) H H') (hs : hm s = c) (hS : s ∈ S) (hn : (S.map Sh.id).Nodup) : Nd H' (d + 1) c (less S s.id) b I := by
  refine ⟨m, es', k, J, h1, h2, ?_, h4, h5, fun i hi => ?_⟩
  · rw [he, less_at]
    exact h3.filter _
  · have e : sub' (childOf c (i : Nat)) (less S s.id) = sub' (childOf c (i : Nat)) S := by
      rw [less_sub]
      refine less_none fun t ht e => ?_
      obtain ⟨ht1, ht2⟩ := List.mem_filter.1 ht
      have := id_inj hn ht1 hS e
      subst this
      rw [not_under_child hi hs] at ht2
      cases ht2
    rw [e]
    rcases h6 i hi with h7 | ⟨h7, b', h8, h9⟩
    · exact .inl h7
    · refine .inr ⟨h7, b', h8, Nd.keep hk h9 fun x hx => ?_⟩
      rintro (rfl | rfl)
      · exact (h5 i hi).1 hx
      · exact (h5 i hi).2.1 hx
/-- A shape goes from below a node. -/
theorem Nd.off {H H' : List Bk} {d : Nat} {c : Ce} {S : List Sh} {s : Sh} {b m i : Nat} {es : List Sh} {k : Nat → Option Nat} {ki : Option Nat} {J : Nat → Nat → Prop} {I J' : Nat → Prop}
    (h1 : H'[b]? = some (.cells (nodeCs c (updN k i ki) (less S s.id).length m))) (h2 : H'[m]? = some (.map (es.map entS))) (h3 : es.Perm (at' c S)) (h4 : ∀ x, I x ↔ x = b ∨ x = m ∨ ∃ i, i < 4 ∧ J i x) (h5 : ∀ i, i < 4 → ¬ J i b ∧ ¬ J i m ∧ ∀ j x, j < 4 → i ≠ j → J i x → ¬ J j x)
    (h6 : ∀ i, i < 4 → Kd (Nd H d (childOf c (i : Nat))) (sub' (childOf c (i : Nat)) S) (k i) (J i)) (hk : Kp (fun x => x = b ∨ J i x) H H') (hi : i < 4) (hu : underC c (hm s) = true) (hs : c ≠ hm s) (hw : wayOf c (hm s) = (i : Nat)) (hS : s ∈ S) (hn : (S.map Sh.id).Nodup)
    (hN : Kd (Nd H' d (childOf c (i : Nat))) (less (sub' (childOf c (i : Nat)) S) s.id) ki J') (hJ : ∀ x, J' x → J i x) : ∃ I', Nd H' (d + 1) c (less S s.id) b I' ∧ ∀ x, I' x → I x := by
  refine ⟨fun x => x = b ∨ x = m ∨ ∃ j, j < 4 ∧ updN J i J' j x, ⟨m, es, updN k i ki, updN J i J', h1, h2, ?_, fun x => Iff.rfl, fun j hj => ?_, fun j hj => ?_⟩, fun x hx => ?_⟩
  · rw [less_at]
    rw [less_none]
    · exact h3
    · intro t ht e
      obtain ⟨ht1, ht2⟩ := List.mem_filter.1 ht
      have := id_inj hn ht1 hS e
      subst this
      exact hs (by simpa using ht2 : hm t = c).symm
  · have old := h5 j hj
    by_cases e : j = i
    · subst e
      rw [updN_self]
      refine ⟨fun hx => old.1 (hJ _ hx), fun hx => old.2.1 (hJ _ hx), fun j2 x hj2 hne hx => ?_⟩
      rw [updN_other (Ne.symm hne)]
      exact old.2.2 j2 x hj2 hne (hJ _ hx)
    · rw [updN_other e]
      refine ⟨old.1, old.2.1, fun j2 x hj2 hne hx => ?_⟩
      by_cases e2 : j2 = i
      · subst e2
        rw [updN_self]
        exact fun hx2 => old.2.2 j2 x hj2 hne hx (hJ _ hx2)
      · rw [updN_other e2]
        exact old.2.2 j2 x hj2 hne hx
  · by_cases e : j = i
    · subst e
      rw [updN_self, updN_self, less_sub]
      exact hN
    · have en : sub' (childOf c (j : Nat)) (less S s.id) = sub' (childOf c (j : Nat)) S := by
        rw [less_sub]
        refine less_none fun t ht e' => ?_
        obtain ⟨ht1, ht2⟩ := List.mem_filter.1 ht
        have := id_inj hn ht1 hS e'
        subst this
        have := (under_child_iff hj hu hs).1 ht2
        omega
      rw [updN_other e, updN_other e, en]
      rcases h6 j hj with h7 | ⟨h7, b2, h8, h9⟩
      · exact .inl h7
      · refine .inr ⟨h7, b2, h8, Nd.keep hk h9 fun x hx => ?_⟩
        rintro (rfl | h)
        · exact (h5 j hj).1 hx
        · exact (h5 j hj).2.2 i x hi e hx h
  · rcases hx with rfl | rfl | ⟨j, hj, hx⟩
    · exact (h4 _).2 (.inl rfl)
    · exact (h4 _).2 (.inr (.inl rfl))
    · by_cases e : j = i
      · subst e
        rw [updN_self] at hx
        exact (h4 x).2 (.inr (.inr ⟨j, hj, hJ x hx⟩))
      · rw [updN_other e] at hx
        exact (h4 x).2 (.inr (.inr ⟨j, hj, hx⟩))
/-- All blocks but some stay, walks over maps too. -/
def KpA (I : Nat → Prop) (H H' : List Bk) : Prop := ∀ i b, ¬ I i → H[i]? = some b → H'[i]? = some b
section
variable {I J : Nat → Prop} {H H1 H2 : List Bk}
theorem KpA.refl : KpA I H H := fun _ _ _ h => h
theorem KpA.trans (h : KpA I H H1) (h1 : KpA I H1 H2) : KpA I H H2 := fun i b hi hb => h1 i b hi (h i b hi hb)
theorem KpA.app {L : List Bk} (h : KpA I H H1) : KpA I H (H1 ++ L) := fun i b hi hb => hget (h i b hi hb)
theorem KpA.set {m : Nat} {k : Bk} (h : KpA I H H1) (hm : I m) : KpA I H (H1.set m k) := fun i b hi hb => by
  rw [List.getElem?_set_ne (by rintro rfl; exact hi hm)]
  exact h i b hi hb
theorem KpA.toKp (h : KpA I H H1) : Kp I H H1 := fun i b hi hb _ => h i b hi hb
theorem KpA.cells {i : Nat} {cs : List SV} (h : KpA I H H1) (hi : ¬ I i) (hb : H[i]? = some (.cells cs)) : H1[i]? = some (.cells cs) := h i _ hi hb
end
def root0 : Ce := ⟨0, 0, 0⟩
def NoB : Nat → Prop := fun _ => False
end Go.Proofs.Ytmjnffjacgjfmaa
