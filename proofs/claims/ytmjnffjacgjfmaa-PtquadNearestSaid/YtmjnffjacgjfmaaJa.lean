/- Records; the nodes of a quadtree of points as they stand in a row; what its functions make of them. Plain, beside how they lie in memory. -/
import Derived.Test.YtmjnffjacgjfmaaHc
import Derived.Test.YtmjnffjacgjfmaaGf
import Derived.Test.YtmjnffjacgjfmaaHd
import Derived.Test.YtmjnffjacgjfmaaBj
namespace Go.Proofs.Ytmjnffjacgjfmaa
set_option linter.all false
open Go.RowKit AM
set_option maxRecDepth 10000
/-- A record. -/
structure Pr where
  id : Int
  at_ : Pt
  lab : Int
  deriving DecidableEq, Inhabited
def Pr.cs (r : Pr) : List V := [.sc (.int .i64 r.id), .sc (.int .i64 r.at_.x), .sc (.int .i64 r.at_.y), .sc (.int .i64 r.lab)]
def Pr.v (r : Pr) : V := .agg r.cs
theorem Pr.v_eq (r : Pr) : r.v = .agg [.sc (.int .i64 r.id), .sc (.int .i64 r.at_.x), .sc (.int .i64 r.at_.y), .sc (.int .i64 r.lab)] := rfl
theorem Pr.cs_eq (r : Pr) : r.cs = [.sc (.int .i64 r.id), .sc (.int .i64 r.at_.x), .sc (.int .i64 r.at_.y), .sc (.int .i64 r.lab)] := rfl
/-- A node. -/
structure Qn where
  c : Ce
  k0 : Int
  k1 : Int
  k2 : Int
  k3 : Int
  many : Int
  split : Bool
  l : List Pr
  /-- Is the row of records full: that alone tells how it lies in memory. -/
  full : Bool
  deriving Inhabited
def Qn.kid (q : Qn) : Nat → Int
  | 0 => q.k0
  | 1 => q.k1
  | 2 => q.k2
  | _ => q.k3
def leafN (c : Ce) : Qn := ⟨c, -1, -1, -1, -1, 0, false, [], true⟩
def zeroN : Qn := ⟨⟨0, 0, 0⟩, 0, 0, 0, 0, 0, false, [], true⟩
/-- The nodes, and the places that are free. -/
structure Ar where
  A : List Qn
  fr : List Nat
/-- Rounds that may fail. -/
def runs {α : Type} (f : Nat → α → Option α) (s : α) : Nat → Option α
  | 0 => some s
  | i + 1 => match runs f s i with
    | some u => f i u
    | none => none
theorem runs_le {α : Type} {f : Nat → α → Option α} {s t : α} : ∀ {n : Nat}, runs f s n = some t → ∀ i, i ≤ n → ∃ u, runs f s i = some u
  | 0, h, i, hi => ⟨t, by rw [show i = 0 by omega]; exact h⟩
  | n + 1, h, i, hi => by
    by_cases e : i = n + 1
    · exact ⟨t, by rw [e]; exact h⟩
    · unfold runs at h
      cases hn : runs f s n with
      | none => rw [hn] at h; cases h
      | some u => exact runs_le hn i (by omega)
theorem runs_step {α : Type} {f : Nat → α → Option α} {s t u : α} {n i : Nat} (h : runs f s n = some t) (hi : i < n) (hu : runs f s i = some u) : ∃ u', f i u = some u' ∧ runs f s (i + 1) = some u' := by
  obtain ⟨u', hu'⟩ := runs_le h (i + 1) hi
  refine ⟨u', ?_, hu'⟩
  unfold runs at hu'
  rw [hu] at hu'
  exact hu'
theorem runs_zero {α : Type} {f : Nat → α → Option α} {s : α} : runs f s 0 = some s := rfl
theorem runs_succ {α : Type} {f : Nat → α → Option α} {s u : α} {i : Nat} (h : runs f s i = some u) : runs f s (i + 1) = f i u := by
  show (match runs f s i with | some u => f i u | none => none) = _
  rw [h]
def big : Nat := 100000000000
/-- A place without records. -/
def leafF (s : Ar) (c : Ce) : Option (Ar × Nat) := match s.fr.getLast? with
  | some a => if a < s.A.length ∧ s.fr.length ≤ big then some (⟨s.A.set a (leafN c), s.fr.dropLast⟩, a) else none
  | none => if s.A.length ≤ big then some (⟨s.A ++ [leafN c], []⟩, s.A.length) else none
def kidZ (p : Pt) (l : Int) : Int := (ofR p (l + 1)).1.x % 2 + (ofR p (l + 1)).1.y % 2 * 2
def kidF (p : Pt) (l : Int) : Nat := (kidZ p l).toNat
theorem ofR_nn (p : Pt) (l : Int) : 0 ≤ (ofR p l).1.x ∧ 0 ≤ (ofR p l).1.y := by
  unfold ofR
  split
  · rename_i h
    simp only [Bool.and_eq_true, fits, inside, decide_eq_true_eq, rightL] at h
    have hs : 0 ≤ side l := Int.le_of_lt (pow_pos' _)
    exact ⟨Int.ediv_nonneg h.2.1.1 hs, Int.ediv_nonneg h.2.2.1 hs⟩
  · exact ⟨Int.le_refl _, Int.le_refl _⟩
theorem kidZ_rng (p : Pt) (l : Int) : 0 ≤ kidZ p l ∧ kidZ p l < 4 := by
  have h := ofR_nn p (l + 1)
  unfold kidZ
  omega
theorem kidF_lt (p : Pt) (l : Int) : kidF p l < 4 := by
  have := kidZ_rng p l
  unfold kidF
  omega
theorem kidF_eq (p : Pt) (l : Int) : ((kidF p l : Nat) : Int) = kidZ p l := by
  have := kidZ_rng p l
  unfold kidF
  omega
def okN (q : Qn) : Prop := rightC q.c = true ∧ -1000000000 ≤ q.many ∧ q.many ≤ 1000000000 ∧ q.l.length ≤ 1000000000
instance (q : Qn) : Decidable (okN q) := by unfold okN; infer_instance
/-- A place that a kid's number tells. -/
def toA (k : Int) : Option Nat := if 0 ≤ k then some k.toNat else none
theorem toA_some {k : Int} {a : Nat} (h : toA k = some a) : k = a := by
  unfold toA at h
  split at h
  · cases h; omega
  · cases h
def kidsF (c : Ce) (s : Ar) : Nat → Option (Ar × List Nat) := runs (fun i u => match leafF u.1 (childR c i).1 with
  | some (s1, k) => some (s1, u.2 ++ [k])
  | none => none) (s, [])
def getK (ks : List Nat) (i : Nat) : Int := ((ks[i]?).getD 0 : Nat)
def putsF (rec : Ar → Nat → Pr → Option Ar) (a : Nat) (l : List Pr) (s : Ar) : Nat → Option Ar := runs (fun i u => match l[i]? with
  | some r => rec u a r
  | none => none) s
def partF (rec : Ar → Nat → Pr → Option Ar) (s : Ar) (a : Nat) : Option Ar := match s.A[a]? with
  | none => none
  | some q => if ¬ okN q then none else match kidsF q.c s 4 with
    | none => none
    | some (s4, ks) => match s4.A[a]? with
      | none => none
      | some q2 => putsF rec a q.l ⟨s4.A.set a { q2 with l := [], full := true, split := true, k0 := getK ks 0, k1 := getK ks 1, k2 := getK ks 2, k3 := getK ks 3, many := 0 }, s4.fr⟩ q.l.length
def addF (b : Nat) (rec : Ar → Nat → Pr → Option Ar) : Nat → Ar → Nat → Pr → Option Ar
  | 0, _, _, _ => none
  | n + 1, s, a, r => match s.A[a]? with
    | none => none
    | some q => if ¬ okN q then none else
      if q.split then (match toA (q.kid (kidF r.at_ q.c.l)) with
        | none => none
        | some a' => addF b rec n ⟨s.A.set a { q with many := q.many + 1 }, s.fr⟩ a' r)
      else (let q1 : Qn := { q with many := q.many + 1, l := q.l ++ [r], full := false }
        if b < q1.l.length ∧ q.c.l < 16 then partF rec ⟨s.A.set a q1, s.fr⟩ a else some ⟨s.A.set a q1, s.fr⟩)
def putT (b : Nat) : Nat → Ar → Nat → Pr → Option Ar
  | 0 => fun _ _ _ => none
  | f + 1 => addF b (putT b f) 18
/-- Something is done with a kid. -/
def kidDo {α : Type} (q : Qn) (G : α → Nat → Option α) (i : Nat) (u : α) : Option α := match toA (q.kid i) with
  | none => none
  | some a' => G u a'
/-- The records of a node, and of all below it. -/
def eachF (A : List Qn) : Nat → Nat → Option (List Pr)
  | 0, _ => none
  | n + 1, a => match A[a]? with
    | none => none
    | some q => if ¬ okN q then none else if q.split then runs (kidDo q fun u a' => (eachF A n a').map (u ++ ·)) q.l 4
      else some q.l
/-- A place is free. -/
def freeF (a : Nat) (u : Ar) : Option Ar := if a < u.A.length ∧ u.fr.length ≤ big then some ⟨u.A.set a zeroN, u.fr ++ [a]⟩ else none
/-- The places below a node are free. -/
def clearF : Nat → Ar → Nat → Option Ar
  | 0, _, _ => none
  | n + 1, s, a => match s.A[a]? with
    | none => none
    | some q => if q.split then runs (kidDo q fun u a' => (clearF n u a').bind (freeF a')) s 4
      else some s
def mergeF (n : Nat) (s : Ar) (a : Nat) : Option Ar := match eachF s.A n a with
  | none => none
  | some l => if ¬ (l.length ≤ 1000000000 ∧ l ≠ []) then none else match clearF n s a with
    | none => none
    | some s1 => match s1.A[a]? with
      | none => none
      | some q => some ⟨s1.A.set a { q with l := l, full := false, split := false, k0 := -1, k1 := -1, k2 := -1, k3 := -1 }, s1.fr⟩
/-- The first record of an ID goes. -/
def dropL (i : Int) : List Pr → List Pr
  | [] => []
  | r :: l => if r.id = i then l else r :: dropL i l
/-- The row behind that is full if the last of it went. -/
def fullL (i : Int) : List Pr → Bool → Bool
  | [], f => f
  | r :: l, f => if r.id = i then l.isEmpty else fullL i l f
def goF (s : Ar) (a : Nat) (r : Pr) : Option Ar := match s.A[a]? with
  | none => none
  | some q => if ¬ (okN q ∧ (q.l.any fun x => decide (x.id = r.id)) = true) then none else some ⟨s.A.set a { q with many := q.many - 1, l := dropL r.id q.l, full := fullL r.id q.l q.full }, s.fr⟩
def dropF (b : Nat) : Nat → Ar → Nat → Pr → Option Ar
  | 0, _, _, _ => none
  | n + 1, s, a, r => match s.A[a]? with
    | none => none
    | some q => if ¬ okN q then none else
      if q.split then
        (if q.many - 1 ≤ b then (match mergeF 18 ⟨s.A.set a { q with many := q.many - 1 }, s.fr⟩ a with
          | none => none
          | some s1 => match s1.A[a]? with
            | none => none
            | some q1 => if ¬ okN q1 then none else goF ⟨s1.A.set a { q1 with many := q1.many + 1 }, s1.fr⟩ a r)
        else (match toA (q.kid (kidF r.at_ q.c.l)) with
          | none => none
          | some a' => dropF b n ⟨s.A.set a { q with many := q.many - 1 }, s.fr⟩ a' r))
      else goF s a r
/-- The records that a rectangle has, of a node and all below it. -/
def windF (A : List Qn) (rc : Re) : Nat → Nat → Option (List Pr)
  | 0, _ => none
  | n + 1, a => match A[a]? with
    | none => none
    | some q => if ¬ okN q then none else
      if q.many = 0 ∨ meetsR (boxR q.c).1 rc = false then some []
      else if inB (boxR q.c).1 rc then eachF A 18 a
      else if q.split then runs (kidDo q fun u a' => (windF A rc n a').map (u ++ ·)) (q.l.filter fun r => hasR rc r.at_) 4
      else some (q.l.filter fun r => hasR rc r.at_)
/-- The greatest level. -/
def deepF (A : List Qn) : Nat → Nat → Option Int
  | 0, _ => none
  | n + 1, a => match A[a]? with
    | none => none
    | some q => if q.split then runs (kidDo q fun d a' => (deepF A n a').map (max d ·)) q.c.l 4
      else some q.c.l

/-! ## How they lie in memory -/
/-- A row of records that stands in a node. -/
def lC (f : Bool) (l : List Pr) : SV := bif f then .v (.fs l.length 4 (l.flatMap Pr.cs)) else .own false 32 l.length 4 (l.flatMap Pr.cs)
def lV (l : List Pr) : V := .sl l.length 4 (l.flatMap Pr.cs)
theorem lC_shared (f : Bool) (l : List Pr) : sharedV (lC f l) = some (lV l) := by cases f <;> rfl
theorem lC_flat (f : Bool) (l : List Pr) : (lC f l).flat = true := by cases f <;> rfl
def ndH (q : Qn) : List SV := [.v (.sc (.int .i64 q.c.l)), .v (.sc (.int .i64 q.c.x)), .v (.sc (.int .i64 q.c.y)), .v (.sc (.int .i64 q.k0)), .v (.sc (.int .i64 q.k1)), .v (.sc (.int .i64 q.k2)), .v (.sc (.int .i64 q.k3)), .v (.sc (.int .i64 q.many)), .v (.sc (.bool q.split))]
def ndC (q : Qn) : List SV := [.v (.sc (.int .i64 q.c.l)), .v (.sc (.int .i64 q.c.x)), .v (.sc (.int .i64 q.c.y)), .v (.sc (.int .i64 q.k0)), .v (.sc (.int .i64 q.k1)), .v (.sc (.int .i64 q.k2)), .v (.sc (.int .i64 q.k3)), .v (.sc (.int .i64 q.many)), .v (.sc (.bool q.split)), lC q.full q.l]
def arC (A : List Qn) (sp : Nat) : List SV := A.flatMap ndC ++ List.replicate sp .any
theorem flatSV_len {α : Type} {f : α → List SV} {n : Nat} (h : ∀ x, (f x).length = n) : ∀ l : List α, (l.flatMap f).length = l.length * n
  | [] => by simp
  | x :: l => by rw [List.flatMap_cons, List.length_append, h, flatSV_len h l, List.length_cons, Nat.add_mul]; omega
theorem ndC_len (q : Qn) : (ndC q).length = 10 := rfl
theorem arC_len (A : List Qn) (sp : Nat) : (arC A sp).length = A.length * 10 + sp := by
  unfold arC
  rw [List.length_append, flatSV_len ndC_len, List.length_replicate]
theorem arC_cut {A : List Qn} {a : Nat} {q : Qn} (h : A[a]? = some q) (sp : Nat) : arC A sp = (A.take a).flatMap ndC ++ (ndC q ++ arC (A.drop (a + 1)) sp) := by
  obtain ⟨hl, rfl⟩ := List.getElem?_eq_some_iff.1 h
  have e := congrArg (fun L => L.flatMap ndC) (List.take_append_drop a A)
  simp only [List.flatMap_append, List.drop_eq_getElem_cons hl, List.flatMap_cons] at e
  unfold arC
  rw [← e]
  simp only [List.append_assoc]
theorem take_len {A : List Qn} {a : Nat} {q : Qn} (h : A[a]? = some q) : ((A.take a).flatMap ndC).length = a * 10 := by
  have := (List.getElem?_eq_some_iff.1 h).1
  rw [flatSV_len ndC_len, List.length_take]
  congr 1
  omega
theorem arC_drop {A : List Qn} {a : Nat} {q : Qn} (h : A[a]? = some q) (sp j : Nat) (hj : j ≤ 10) : (arC A sp).drop (a * 10 + j) = (ndC q).drop j ++ arC (A.drop (a + 1)) sp := by
  rw [arC_cut h sp, List.drop_append, take_len h, List.drop_of_length_le (by rw [take_len h]; omega), List.nil_append, Nat.add_sub_cancel_left, List.drop_append, ndC_len, show j - 10 = 0 by omega, List.drop_zero]
theorem arC_get {A : List Qn} {a : Nat} {q : Qn} (h : A[a]? = some q) (sp j : Nat) (hj : j < 10) : (arC A sp)[a * 10 + j]? = (ndC q)[j]? := by
  rw [arC_cut h sp, List.getElem?_append_right (by rw [take_len h]; omega), take_len h, Nat.add_sub_cancel_left, List.getElem?_append_left (by rw [ndC_len]; exact hj)]
theorem arC_set {A : List Qn} {a : Nat} {q q' : Qn} (h : A[a]? = some q) (sp j : Nat) (hj : j < 10) {x : SV} (hx : ndC q' = (ndC q).set j x) : (arC A sp).set (a * 10 + j) x = arC (A.set a q') sp := by
  have hl := (List.getElem?_eq_some_iff.1 h).1
  have h' : (A.set a q')[a]? = some q' := List.getElem?_set_self hl
  rw [arC_cut h sp, arC_cut h' sp, List.set_append_right _ _ (by rw [take_len h]; omega), take_len h, Nat.add_sub_cancel_left, List.set_append_left _ _ (by rw [ndC_len]; exact hj), hx]
  rw [List.take_set_of_le (Nat.le_refl _), List.drop_set_of_lt (by omega)]
theorem setCells_eq {id : Nat} : ∀ {xs : List V} {H : List Bk} {ks : List SV} {off : Nat}, H[id]? = some (.cells ks) → off + xs.length ≤ ks.length → setCells H id off xs = H.set id (.cells (ks.take off ++ xs.map .v ++ ks.drop (off + xs.length)))
  | [], H, ks, off, hk, hl => by
    simp only [setCells, List.map_nil, List.append_nil, List.length_nil, Nat.add_zero, List.take_append_drop]
    apply List.ext_getElem?
    intro i
    rw [List.getElem?_set]
    split
    · rename_i e
      subst e
      rw [if_pos (List.getElem?_eq_some_iff.1 hk).1, hk]
    · rfl
  | x :: xs, H, ks, off, hk, hl => by
    simp only [List.length_cons] at hl
    have hlt := (List.getElem?_eq_some_iff.1 hk).1
    unfold setCells
    rw [setBlk_eq' hk, setCells_eq (ks := ks.set off (.v x)) (List.getElem?_set_self hlt) (by simp; omega), List.set_set]
    congr 2
    have hd : (ks.set off (SV.v x)).drop (off + 1 + xs.length) = ks.drop (off + (x :: xs).length) := by
      rw [List.drop_set_of_lt (by omega)]
      congr 1
      simp
      omega
    have ht : (ks.set off (SV.v x)).take (off + 1) = ks.take off ++ [.v x] := by
      rw [List.take_succ, List.take_set_of_le (Nat.le_refl _), List.getElem?_set_self (by omega)]
      rfl
    rw [hd, ht]
    simp
theorem setCells_other {id i : Nat} (hne : i ≠ id) : ∀ {xs : List V} {H : List Bk} {off : Nat}, (setCells H id off xs)[i]? = H[i]?
  | [], H, off => rfl
  | x :: xs, H, off => by
    unfold setCells
    rw [setCells_other hne]
    unfold setBlk
    split
    · rw [List.getElem?_set_ne (Ne.symm hne)]
    · rfl
/-- All cells of the last block. -/
theorem setCells_last {L : List Bk} {ks : List SV} {xs : List V} (h : xs.length = ks.length) : setCells (L ++ [.cells ks]) L.length 0 xs = L ++ [.cells (xs.map .v)] := by
  rw [setCells_eq (ks := ks) (by simp) (by omega)]
  simp [h]
theorem setCells_last1 {L : List Bk} {k : Bk} {ks : List SV} {xs : List V} (h : xs.length = ks.length) : setCells (L ++ [k, .cells ks]) (L.length + 1) 0 xs = L ++ [k, .cells (xs.map .v)] := by
  have := setCells_last (L := L ++ [k]) h
  simpa using this
def frS (fr : List Nat) : List V := fr.map fun k => .sc (.int .i64 (k : Nat))
def trC (b nb n cap : Nat) (fr : List Nat) (mb : Nat) : List SV := [.v (.sc (.int .i64 b)), .v (.slb nb 0 n cap), .own true 3 fr.length 1 (frS fr), .v (.map mb)]
def entP (r : Pr) : Value × V := (.int .i64 r.id, r.v)
/-- A tree at block r: its nodes at block nb, its map at block mb. -/
structure TrA (H : List Bk) (r b nb mb cap : Nat) (s : Ar) (es : List Pr) : Prop where
  cr : H[r]? = some (.cells (trC b nb s.A.length cap s.fr mb))
  cn : cap ≠ 0 → H[nb]? = some (.cells (arC s.A ((cap - s.A.length) * 10)))
  cm : H[mb]? = some (.map (es.map entP))
  le : s.A.length ≤ cap
  rn : cap ≠ 0 → r ≠ nb
  b0 : 1 ≤ b ∧ b ≤ 64
  rl : r < H.length
/-- What stays when a tree turns. -/
structure Stp (r nb : Nat) (H H' : List Bk) (nb' : Nat) : Prop where
  kp : KpA (fun x => x = r ∨ x = nb) H H'
  len : H.length ≤ H'.length
  nb : nb' = nb ∨ H.length ≤ nb'
theorem TrA.keep {H H' : List Bk} {r b nb mb cap : Nat} {s : Ar} {es : List Pr} {I : Nat → Prop} (h : TrA H r b nb mb cap s es) (hk : KpA I H H') (h1 : ¬ I r) (h2 : cap ≠ 0 → ¬ I nb) (h3 : ¬ I mb) : TrA H' r b nb mb cap s es :=
  ⟨hk _ _ h1 h.cr, fun hc => hk _ _ (h2 hc) (h.cn hc), hk _ _ h3 h.cm, h.le, h.rn, h.b0, (List.getElem?_eq_some_iff.1 (hk _ _ h1 h.cr)).1⟩
theorem TrA.app {H L : List Bk} {r b nb mb cap : Nat} {s : Ar} {es : List Pr} (h : TrA H r b nb mb cap s es) : TrA (H ++ L) r b nb mb cap s es :=
  h.keep (I := fun _ => False) KpA.refl.app id (fun _ => id) id
theorem TrA.rm {H : List Bk} {r b nb mb cap : Nat} {s : Ar} {es : List Pr} (h : TrA H r b nb mb cap s es) : r ≠ mb := by
  rintro rfl
  have := h.cr
  rw [h.cm] at this
  cases this
theorem TrA.nm {H : List Bk} {r b nb mb cap : Nat} {s : Ar} {es : List Pr} (h : TrA H r b nb mb cap s es) (hc : cap ≠ 0) : nb ≠ mb := by
  rintro rfl
  have := h.cn hc
  rw [h.cm] at this
  cases this
theorem Stp.refl {r nb : Nat} {H : List Bk} : Stp r nb H H nb := ⟨KpA.refl, Nat.le_refl _, .inl rfl⟩
theorem Stp.app {r nb nb' : Nat} {H H' L : List Bk} (h : Stp r nb H H' nb') : Stp r nb H (H' ++ L) nb' := ⟨h.kp.app, by have := h.len; simp; omega, h.nb⟩
theorem Stp.trans {r nb n1 n2 : Nat} {H H1 H2 : List Bk} (h : Stp r nb H H1 n1) (k : Stp r n1 H1 H2 n2) : Stp r nb H H2 n2 := by
  have l1 := h.len
  have l2 := k.len
  refine ⟨fun i x hi hx => ?_, by omega, ?_⟩
  · have hlt := (List.getElem?_eq_some_iff.1 hx).1
    refine k.kp i x ?_ (h.kp i x hi hx)
    rintro (rfl | rfl)
    · exact hi (.inl rfl)
    · rcases h.nb with rfl | e
      · exact hi (.inr rfl)
      · omega
  · rcases k.nb with rfl | e
    · exact h.nb
    · right; omega
/-- From some more blocks on. -/
theorem Stp.after {r nb n1 : Nat} {H H0 H1 : List Bk} (hk : KpA (fun x => x = r ∨ x = nb) H H0) (hl : H.length ≤ H0.length) (k : Stp r nb H0 H1 n1) : Stp r nb H H1 n1 := Stp.trans ⟨hk, hl, .inl rfl⟩ k
/-- A block of the tree is turned. -/
theorem Stp.set {r nb n1 i : Nat} {H H1 : List Bk} {k : Bk} (h : Stp r nb H H1 n1) (hi : i = r ∨ i = nb ∨ H.length ≤ i) : Stp r nb H (H1.set i k) n1 := ⟨fun j x hj hx => by
  have hlt := (List.getElem?_eq_some_iff.1 hx).1
  rw [List.getElem?_set_ne (by
    rintro rfl
    rcases hi with rfl | rfl | hi
    · exact hj (.inl rfl)
    · exact hj (.inr rfl)
    · omega)]
  exact h.kp j x hj hx, by simpa using h.len, h.nb⟩
/-- A node as it is built, without records. -/
def ndV (q : Qn) : List V := [.sc (.int .i64 q.c.l), .sc (.int .i64 q.c.x), .sc (.int .i64 q.c.y), .sc (.int .i64 q.k0), .sc (.int .i64 q.k1), .sc (.int .i64 q.k2), .sc (.int .i64 q.k3), .sc (.int .i64 q.many), .sc (.bool q.split), .nil]
theorem ndV_wk {q : Qn} (hq : q.l = [] ∧ q.full = true) : ∀ (j : Nat) (x y : SV), ((ndV q).map SV.v)[j]? = some x → (ndC q)[j]? = some y → x.flat = true → cellWk x y := by
  intro j x y hx hy hf
  unfold ndC at hy
  rw [hq.1, hq.2] at hy
  by_cases h9 : j = 9
  · subst h9
    simp [ndV, lC] at hx hy
    subst hx hy
    exact .nil rfl ⟨rfl, rfl⟩
  · have : x = y := by
      by_cases hj : j < 9
      · rcases (show j = 0 ∨ j = 1 ∨ j = 2 ∨ j = 3 ∨ j = 4 ∨ j = 5 ∨ j = 6 ∨ j = 7 ∨ j = 8 by omega) with rfl | rfl | rfl | rfl | rfl | rfl | rfl | rfl | rfl <;> (simp [ndV] at hx hy; rw [← hx, ← hy])
      · have := (List.getElem?_eq_some_iff.1 hx).1
        simp [ndV] at this
        omega
    subst this
    exact cellWk.refl hf
theorem Wk.seg {H : List Bk} {id : Nat} {p xs ys d : List SV} (hk : H[id]? = some (.cells (p ++ xs ++ d))) (hl : xs.length = ys.length) (hc : ∀ (j : Nat) (x y : SV), xs[j]? = some x → ys[j]? = some y → x.flat = true → cellWk x y) : Wk H (H.set id (.cells (p ++ ys ++ d))) :=
  Wk.cells hk (by simp [hl]) fun j x y hx hy hf => by
    by_cases h1 : j < p.length
    · rw [List.append_assoc, List.getElem?_append_left h1] at hx hy
      rw [hx] at hy
      cases hy
      exact cellWk.refl hf
    · rw [List.append_assoc, List.getElem?_append_right (by omega)] at hx hy
      by_cases h2 : j - p.length < xs.length
      · rw [List.getElem?_append_left h2] at hx
        rw [List.getElem?_append_left (by omega)] at hy
        exact hc _ _ _ hx hy hf
      · rw [List.getElem?_append_right (by omega)] at hx
        rw [List.getElem?_append_right (by omega), ← hl] at hy
        rw [hx] at hy
        cases hy
        exact cellWk.refl hf
theorem arC_rep {A : List Qn} {a : Nat} (q' : Qn) (h : a < A.length) (sp : Nat) : (arC A sp).take (a * 10) ++ ndC q' ++ (arC A sp).drop (a * 10 + 10) = arC (A.set a q') sp := by
  have h1 := List.getElem?_eq_getElem h
  have h' : (A.set a q')[a]? = some q' := List.getElem?_set_self h
  rw [arC_drop h1 sp 10 (by omega), arC_cut h' sp, List.take_set_of_le (Nat.le_refl _), List.drop_set_of_lt (by omega)]
  have ht : (arC A sp).take (a * 10) = (A.take a).flatMap ndC := by
    rw [arC_cut h1 sp, List.take_append_of_le_length (by rw [take_len h1]; exact Nat.le_refl _), List.take_of_length_le (by rw [take_len h1]; exact Nat.le_refl _)]
  rw [ht]
  simp [ndC]
/-- A whole node is stored. -/
theorem storeN {H : List Bk} {nb a sp : Nat} {A : List Qn} {q : Qn} (hn : H[nb]? = some (.cells (arC A sp))) (ha : a < A.length) (hq : q.l = [] ∧ q.full = true) : Wk (setCells H nb (a * 10) (ndV q)) (H.set nb (.cells (arC (A.set a q) sp))) := by
  have hl := (List.getElem?_eq_some_iff.1 hn).1
  have hlen := arC_len A sp
  rw [setCells_eq hn (by simp [ndV]; omega), ← arC_rep q ha sp]
  have := Wk.seg (H := H.set nb (.cells ((arC A sp).take (a * 10) ++ (ndV q).map SV.v ++ (arC A sp).drop (a * 10 + (ndV q).length)))) (id := nb) (ys := ndC q) (List.getElem?_set_self hl) rfl (ndV_wk hq)
  rw [List.set_set] at this
  exact this
theorem arC_take {A : List Qn} {sp : Nat} : (arC A sp).take (A.length * 10) = A.flatMap ndC := by
  have := flatSV_len ndC_len A
  unfold arC
  rw [← this, List.take_left]
theorem arC_rest {A : List Qn} {sp j : Nat} : (arC A sp).drop (A.length * 10 + j) = List.replicate (sp - j) .any := by
  have := flatSV_len ndC_len A
  unfold arC
  rw [← this, List.drop_append, List.drop_of_length_le (by omega), List.nil_append, Nat.add_sub_cancel_left, List.drop_replicate]
theorem arC_snoc (A : List Qn) (q : Qn) (k : Nat) : A.flatMap ndC ++ ndC q ++ List.replicate k .any = arC (A ++ [q]) k := by simp [arC]
/-- A node more, in the block that there is. -/
theorem moreN {H : List Bk} {nb cap : Nat} {A : List Qn} {q : Qn} (hn : H[nb]? = some (.cells (arC A ((cap - A.length) * 10)))) (ha : A.length + 1 ≤ cap) (hq : q.l = [] ∧ q.full = true) : Wk (setCells H nb (A.length * 10) (ndV q)) (H.set nb (.cells (arC (A ++ [q]) ((cap - (A.length + 1)) * 10)))) := by
  have hl := (List.getElem?_eq_some_iff.1 hn).1
  have hlen := arC_len A ((cap - A.length) * 10)
  rw [setCells_eq hn (by simp [ndV]; omega), arC_take]
  have e10 : (ndV q).length = 10 := rfl
  rw [e10, arC_rest, ← arC_snoc]
  have e : (cap - A.length) * 10 - 10 = (cap - (A.length + 1)) * 10 := by omega
  rw [e]
  have := Wk.seg (H := H.set nb (.cells (A.flatMap ndC ++ (ndV q).map SV.v ++ List.replicate ((cap - (A.length + 1)) * 10) .any))) (id := nb) (ys := ndC q) (List.getElem?_set_self hl) rfl (ndV_wk hq)
  rw [List.set_set] at this
  exact this
/-- A node more, in a block that is laid. -/
theorem laidN {L : List Bk} {k : Nat} {A : List Qn} {q : Qn} (hq : q.l = [] ∧ q.full = true) : Wk (L ++ [.cells (A.flatMap ndC ++ (ndV q).map .v ++ List.replicate k .any)]) (L ++ [.cells (arC (A ++ [q]) k)]) := by
  have := Wk.seg (H := L ++ [.cells (A.flatMap ndC ++ (ndV q).map .v ++ List.replicate k .any)]) (id := L.length) (p := A.flatMap ndC) (xs := (ndV q).map SV.v) (d := List.replicate k .any) (ys := ndC q) (by simp) rfl (ndV_wk hq)
  rw [arC_snoc] at this
  simpa using this
theorem setCells_comm {H : List Bk} {id r off : Nat} {ks : List SV} {xs : List V} {K : Bk} (hne : r ≠ id) (hk : H[id]? = some (.cells ks)) (hl : off + xs.length ≤ ks.length) : (setCells H id off xs).set r K = setCells (H.set r K) id off xs := by
  rw [setCells_eq hk hl, setCells_eq (H := H.set r K) (by rw [List.getElem?_set_ne hne]; exact hk) hl, List.set_comm _ _ (Ne.symm hne)]
/-- One node of a tree is turned. -/
theorem TrA.node {H : List Bk} {r b nb mb cap : Nat} {s : Ar} {es : List Pr} {a : Nat} {q : Qn} (q' : Qn) (h : TrA H r b nb mb cap s es) (hq : s.A[a]? = some q) : TrA (H.set nb (.cells (arC (s.A.set a q') ((cap - s.A.length) * 10)))) r b nb mb cap ⟨s.A.set a q', s.fr⟩ es := by
  have hal := (List.getElem?_eq_some_iff.1 hq).1
  have hle := h.le
  have hc : cap ≠ 0 := by omega
  refine ⟨?_, fun _ => ?_, ?_, by simpa using hle, h.rn, h.b0, by simpa using h.rl⟩
  · rw [List.getElem?_set_ne (Ne.symm (h.rn hc))]
    simpa using h.cr
  · rw [List.getElem?_set_self (List.getElem?_eq_some_iff.1 (h.cn hc)).1]
    simp
  · rw [List.getElem?_set_ne (h.nm hc)]
    exact h.cm
theorem TrA.cap0 {H : List Bk} {r b nb mb cap : Nat} {s : Ar} {es : List Pr} {a : Nat} {q : Qn} (h : TrA H r b nb mb cap s es) (hq : s.A[a]? = some q) : cap ≠ 0 := by
  have hal := (List.getElem?_eq_some_iff.1 hq).1
  have hle := h.le
  omega
theorem set_ndC7 (q : Qn) (z : Int) : ndC { q with many := z } = (ndC q).set 7 (.v (.sc (.int .i64 z))) := rfl
theorem dropN (q : Qn) (X : List SV) : (ndC q).drop 0 ++ X = .v (.sc (.int .i64 q.c.l)) :: .v (.sc (.int .i64 q.c.x)) :: .v (.sc (.int .i64 q.c.y)) :: .v (.sc (.int .i64 q.k0)) :: .v (.sc (.int .i64 q.k1)) :: .v (.sc (.int .i64 q.k2)) :: .v (.sc (.int .i64 q.k3)) :: .v (.sc (.int .i64 q.many)) :: .v (.sc (.bool q.split)) :: lC q.full q.l :: X := rfl
theorem drop_kid {A : List Qn} {a : Nat} {q : Qn} (h : A[a]? = some q) (sp i : Nat) (hi : i < 4) : ∃ tl, (arC A sp).drop (a * 10 + 3 + i) = .v (.sc (.int .i64 (q.kid i))) :: tl := by
  rw [Nat.add_assoc, arC_drop h sp (3 + i) (by omega)]
  rcases (show i = 0 ∨ i = 1 ∨ i = 2 ∨ i = 3 by omega) with rfl | rfl | rfl | rfl <;> exact ⟨_, rfl⟩
theorem drop_many {A : List Qn} {a : Nat} {q : Qn} (h : A[a]? = some q) (sp : Nat) : ∃ tl, (arC A sp).drop (a * 10 + 7) = .v (.sc (.int .i64 q.many)) :: tl := by
  rw [arC_drop h sp 7 (by omega)]
  exact ⟨_, rfl⟩
theorem drop_split {A : List Qn} {a : Nat} {q : Qn} (h : A[a]? = some q) (sp : Nat) : ∃ tl, (arC A sp).drop (a * 10 + 8) = .v (.sc (.bool q.split)) :: tl := by
  rw [arC_drop h sp 8 (by omega)]
  exact ⟨_, rfl⟩
theorem drop_rows {A : List Qn} {a : Nat} {q : Qn} (h : A[a]? = some q) (sp : Nat) : ∃ tl, (arC A sp).drop (a * 10 + 9) = lC q.full q.l :: tl := by
  rw [arC_drop h sp 9 (by omega)]
  exact ⟨_, rfl⟩
theorem drop_cell {A : List Qn} {a : Nat} {q : Qn} (h : A[a]? = some q) (sp : Nat) : ∃ tl, (arC A sp).drop (a * 10) = .v (.sc (.int .i64 q.c.l)) :: .v (.sc (.int .i64 q.c.x)) :: .v (.sc (.int .i64 q.c.y)) :: .v (.sc (.int .i64 q.k0)) :: .v (.sc (.int .i64 q.k1)) :: .v (.sc (.int .i64 q.k2)) :: .v (.sc (.int .i64 q.k3)) :: .v (.sc (.int .i64 q.many)) :: .v (.sc (.bool q.split)) :: lC q.full q.l :: tl := by
  have := arC_drop h sp 0 (by omega)
  rw [Nat.add_zero] at this
  rw [this]
  exact ⟨_, rfl⟩
theorem set_many {A : List Qn} {a : Nat} {q : Qn} (h : A[a]? = some q) (sp : Nat) (z : Int) : (arC A sp).set (a * 10 + 7) (.v (.sc (.int .i64 z))) = arC (A.set a { q with many := z }) sp := arC_set h sp 7 (by omega) rfl
/-- A record's block. -/
def prB (r : Pr) : Bk := .cells [.v (.sc (.int .i64 r.id)), .v (.sc (.int .i64 r.at_.x)), .v (.sc (.int .i64 r.at_.y)), .v (.sc (.int .i64 r.lab))]
theorem addF_some {b : Nat} {rec : Ar → Nat → Pr → Option Ar} {n : Nat} {s s' : Ar} {a : Nat} {rc : Pr} (h : addF b rec n s a rc = some s') : ∃ n' q, n = n' + 1 ∧ s.A[a]? = some q ∧ okN q ∧
    ((q.split = true ∧ ∃ a' : Nat, q.kid (kidF rc.at_ q.c.l) = (a' : Int) ∧ addF b rec n' ⟨s.A.set a { q with many := q.many + 1 }, s.fr⟩ a' rc = some s') ∨
     (q.split = false ∧ ((b < q.l.length + 1 ∧ q.c.l < 16 ∧ partF rec ⟨s.A.set a { q with many := q.many + 1, l := q.l ++ [rc], full := false }, s.fr⟩ a = some s') ∨ (¬ (b < q.l.length + 1 ∧ q.c.l < 16) ∧ s' = ⟨s.A.set a { q with many := q.many + 1, l := q.l ++ [rc], full := false }, s.fr⟩)))) := by
  cases n with
  | zero => cases h
  | succ n =>
    unfold addF at h
    cases hq : s.A[a]? with
    | none => rw [hq] at h; cases h
    | some q =>
      rw [hq] at h
      simp only at h
      by_cases hok : okN q
      rotate_left
      · rw [if_pos hok] at h; cases h
      rw [if_neg (fun e => e hok)] at h
      refine ⟨n, q, rfl, rfl, hok, ?_⟩
      cases hs : q.split with
      | true =>
        rw [hs, if_pos rfl] at h
        cases ht : toA (q.kid (kidF rc.at_ q.c.l)) with
        | none => rw [ht] at h; cases h
        | some a' => rw [ht] at h; exact .inl ⟨rfl, a', toA_some ht, h⟩
      | false =>
        rw [hs, if_neg (by simp)] at h
        right
        refine ⟨rfl, ?_⟩
        simp only [List.length_append, List.length_cons, List.length_nil, Nat.zero_add] at h
        by_cases hc : b < q.l.length + 1 ∧ q.c.l < 16
        · rw [if_pos hc] at h
          exact .inl ⟨hc.1, hc.2, h⟩
        · rw [if_neg hc] at h
          cases h
          exact .inr ⟨hc, rfl⟩
theorem get_rows {A : List Qn} {a : Nat} {q : Qn} (h : A[a]? = some q) (sp : Nat) : (arC A sp)[a * 10 + 9]? = some (lC q.full q.l) := by
  rw [arC_get h sp 9 (by omega)]
  rfl
theorem set_rows {A : List Qn} {a : Nat} {q : Qn} (h : A[a]? = some q) (sp : Nat) (f : Bool) (l : List Pr) : (arC A sp).set (a * 10 + 9) (lC f l) = arC (A.set a { q with l := l, full := f }) sp := arC_set h sp 9 (by omega) rfl
theorem lC_own {l : List Pr} : lC false l = .own false 32 l.length 4 (l.flatMap Pr.cs) := rfl
theorem lC_fs {l : List Pr} : lC true l = .v (.fs l.length 4 (l.flatMap Pr.cs)) := rfl
theorem flat_snoc (l : List Pr) (r : Pr) : (l ++ [r]).flatMap Pr.cs = l.flatMap Pr.cs ++ [.sc (.int .i64 r.id), .sc (.int .i64 r.at_.x), .sc (.int .i64 r.at_.y), .sc (.int .i64 r.lab)] := by simp [Pr.cs]
/-- A node among the others. -/
theorem cutN {A : List Qn} {a : Nat} {q : Qn} (h : A[a]? = some q) (sp : Nat) : ∃ P D, P.length = a * 10 ∧ arC A sp = P ++ (ndC q ++ D) ∧ ∀ q', arC (A.set a q') sp = P ++ (ndC q' ++ D) := by
  have hl := (List.getElem?_eq_some_iff.1 h).1
  refine ⟨(A.take a).flatMap ndC, arC (A.drop (a + 1)) sp, take_len h, arC_cut h sp, fun q' => ?_⟩
  have h' : (A.set a q')[a]? = some q' := List.getElem?_set_self hl
  rw [arC_cut h' sp, List.take_set_of_le (Nat.le_refl _), List.drop_set_of_lt (by omega)]
theorem set_mid {P N D : List SV} {a j : Nat} {x : SV} (hP : P.length = a * 10) (hj : j < N.length) : (P ++ (N ++ D)).set (a * 10 + j) x = P ++ (N.set j x ++ D) := by
  rw [List.set_append_right _ _ (by omega), hP, Nat.add_sub_cancel_left, List.set_append_left _ _ hj]
theorem setCells_one {H : List Bk} {id off : Nat} {x : V} : setCells H id off [x] = setBlk H id off (.v x) := rfl
theorem setCells_mid {H : List Bk} {id : Nat} {P N D : List SV} {a j : Nat} {xs : List V} (hP : P.length = a * 10) (hk : H[id]? = some (.cells (P ++ (N ++ D)))) (hj : j + xs.length ≤ N.length) : setCells H id (a * 10 + j) xs = H.set id (.cells (P ++ ((N.take j ++ xs.map .v ++ N.drop (j + xs.length)) ++ D))) := by
  rw [setCells_eq hk (by simp; omega)]
  congr 2
  have e1 : (P ++ (N ++ D)).take (a * 10 + j) = P ++ N.take j := by
    rw [List.take_append, hP, Nat.add_sub_cancel_left, List.take_of_length_le (by omega), List.take_append_of_le_length (by omega)]
  have e2 : (P ++ (N ++ D)).drop (a * 10 + j + xs.length) = N.drop (j + xs.length) ++ D := by
    rw [Nat.add_assoc, List.drop_append, hP, Nat.add_sub_cancel_left, List.drop_of_length_le (by omega), List.nil_append, List.drop_append_of_le_length (by omega)]
  rw [e1, e2]
  simp
theorem exactB_arC {A : List Qn} {sp : Nat} (h : 0 < A.length) : exactB (arC A sp) = false := by
  cases A with
  | nil => simp at h
  | cons q A =>
    unfold arC
    rw [List.flatMap_cons]
    cases hl : q.full <;> simp [ndC, lC, hl, exactB, V.fixed]
theorem keepS_set {H : List Bk} {id : Nat} {ks : List SV} {K : Bk} (hk : H[id]? = some (.cells ks)) (he : exactB ks = false) : keepS H (H.set id K) := fun i ks' h h2 => by
  by_cases e : id = i
  · subst e
    rw [hk] at h
    cases h
    rw [he] at h2
    cases h2
  · rw [List.getElem?_set_ne e]
    exact h
theorem lV_weak (l : List Pr) : ∀ I φ v, Rel I φ (.fs l.length 4 (l.flatMap Pr.cs)) v → Rel I φ (lV l) v := fun I φ v hv => fs_sl' hv
/-- A slice of records, at one place. -/
theorem rowP {l : List Pr} {k : Nat} (hk : k < l.length) : AM.rowAt 4 (l.flatMap Pr.cs) (k : Int) = Pr.cs l[k] := AM.row_flat (enc := Pr.cs) (fun _ => rfl) hk
theorem kidsF_inv {c : Ce} {s s1 : Ar} {ks : List Nat} : ∀ {i : Nat}, kidsF c s i = some (s1, ks) → ks.length = i
  | 0, h => by cases h; rfl
  | i + 1, h => by
    unfold kidsF runs at h
    cases hp : runs (fun i u => match leafF u.1 (childR c i).1 with
      | some (s1, k) => some (s1, u.2 ++ [k])
      | none => none) (s, ([] : List Nat)) i with
    | none => rw [hp] at h; cases h
    | some u =>
      obtain ⟨u1, u2⟩ := u
      have ih := kidsF_inv (c := c) (s := s) (i := i) hp
      rw [hp] at h
      simp only at h
      cases hl : leafF u1 (childR c i).1 with
      | none => rw [hl] at h; cases h
      | some p =>
        obtain ⟨s2, k⟩ := p
        rw [hl] at h
        cases h
        simp [ih]
theorem kidsF_step {c : Ce} {s t u1 : Ar} {ks kt : List Nat} {i n : Nat} (h : kidsF c s n = some (t, kt)) (hi : i < n) (hu : kidsF c s i = some (u1, ks)) : ∃ u2 k, leafF u1 (childR c i).1 = some (u2, k) ∧ kidsF c s (i + 1) = some (u2, ks ++ [k]) := by
  obtain ⟨u', h1, h2⟩ := runs_step h hi hu
  simp only at h1
  cases hl : leafF u1 (childR c i).1 with
  | none => rw [hl] at h1; cases h1
  | some p =>
    obtain ⟨s2, k⟩ := p
    rw [hl] at h1
    cases h1
    exact ⟨s2, k, rfl, h2⟩
theorem partF_some {rec : Ar → Nat → Pr → Option Ar} {s s' : Ar} {a : Nat} (h : partF rec s a = some s') : ∃ q s4 ks q2, s.A[a]? = some q ∧ okN q ∧ kidsF q.c s 4 = some (s4, ks) ∧ s4.A[a]? = some q2 ∧
    putsF rec a q.l ⟨s4.A.set a { q2 with l := [], full := true, split := true, k0 := getK ks 0, k1 := getK ks 1, k2 := getK ks 2, k3 := getK ks 3, many := 0 }, s4.fr⟩ q.l.length = some s' := by
  unfold partF at h
  cases hq : s.A[a]? with
  | none => rw [hq] at h; cases h
  | some q =>
    rw [hq] at h
    simp only at h
    by_cases hok : okN q
    rotate_left
    · rw [if_pos hok] at h; cases h
    rw [if_neg (fun e => e hok)] at h
    cases hk : kidsF q.c s 4 with
    | none => rw [hk] at h; cases h
    | some p =>
      obtain ⟨s4, ks⟩ := p
      rw [hk] at h
      simp only at h
      cases h2 : s4.A[a]? with
      | none => rw [h2] at h; cases h
      | some q2 =>
        rw [h2] at h
        exact ⟨q, s4, ks, q2, rfl, hok, hk, h2, h⟩
/-- The kids' places, as they come in. -/
def kidC (ks : List Nat) (i : Nat) : SV := .v (.sc (.int .i64 (getK ks i)))
def kidB (ks : List Nat) : Bk := .cells [kidC ks 0, kidC ks 1, kidC ks 2, kidC ks 3]
theorem getK_old {ks : List Nat} {k i : Nat} (h : i < ks.length) : getK (ks ++ [k]) i = getK ks i := by
  unfold getK
  rw [List.getElem?_append_left h]
theorem getK_new {ks : List Nat} {k : Nat} : getK (ks ++ [k]) ks.length = k := by
  unfold getK
  simp
theorem getK_off {ks : List Nat} {i : Nat} (h : ks.length ≤ i) : getK ks i = 0 := by
  unfold getK
  rw [List.getElem?_eq_none h]
  rfl
theorem set_same {α : Type} {l : List α} {i : Nat} {x : α} (h : l[i]? = some x) : l.set i x = l := by
  apply List.ext_getElem?
  intro j
  rw [List.getElem?_set]
  split
  · rename_i e
    subst e
    rw [if_pos (List.getElem?_eq_some_iff.1 h).1, h]
  · rfl
theorem kidB_set {ks : List Nat} {i k : Nat} (hl : ks.length = i) (hi : i < 4) : [kidC ks 0, kidC ks 1, kidC ks 2, kidC ks 3].set i (.v (.sc (.int .i64 k))) = [kidC (ks ++ [k]) 0, kidC (ks ++ [k]) 1, kidC (ks ++ [k]) 2, kidC (ks ++ [k]) 3] := by
  have old : ∀ j, j ≠ i → kidC (ks ++ [k]) j = kidC ks j := fun j hj => by
    unfold kidC
    by_cases h : j < ks.length
    · rw [getK_old h]
    · rw [getK_off (ks := ks) (by omega), getK_off (by simp; omega)]
  have new : kidC (ks ++ [k]) i = .v (.sc (.int .i64 k)) := by
    unfold kidC
    rw [← hl, getK_new]
  rcases (show i = 0 ∨ i = 1 ∨ i = 2 ∨ i = 3 by omega) with rfl | rfl | rfl | rfl
  · rw [new, old 1 (by decide), old 2 (by decide), old 3 (by decide)]; rfl
  · rw [new, old 0 (by decide), old 2 (by decide), old 3 (by decide)]; rfl
  · rw [new, old 0 (by decide), old 1 (by decide), old 3 (by decide)]; rfl
  · rw [new, old 0 (by decide), old 1 (by decide), old 2 (by decide)]; rfl
theorem putsF_step {rec : Ar → Nat → Pr → Option Ar} {a : Nat} {l : List Pr} {s t u : Ar} {i n : Nat} (h : putsF rec a l s n = some t) (hi : i < n) (hl : i < l.length) (hu : putsF rec a l s i = some u) : ∃ u', rec u a l[i] = some u' ∧ putsF rec a l s (i + 1) = some u' := by
  obtain ⟨u', h1, h2⟩ := runs_step h hi hu
  simp only [List.getElem?_eq_getElem hl] at h1
  exact ⟨u', h1, h2⟩
theorem eachF_some {A : List Qn} {n a : Nat} {L : List Pr} (h : eachF A n a = some L) : ∃ n' q, n = n' + 1 ∧ A[a]? = some q ∧ okN q ∧ ((q.split = false ∧ L = q.l) ∨ (q.split = true ∧ runs (kidDo q fun u a' => (eachF A n' a').map (u ++ ·)) q.l 4 = some L)) := by
  cases n with
  | zero => cases h
  | succ n =>
    unfold eachF at h
    cases hq : A[a]? with
    | none => rw [hq] at h; cases h
    | some q =>
      rw [hq] at h
      simp only at h
      by_cases hok : okN q
      rotate_left
      · rw [if_pos hok] at h; cases h
      rw [if_neg (fun e => e hok)] at h
      refine ⟨n, q, rfl, rfl, hok, ?_⟩
      cases hs : q.split with
      | true => rw [hs, if_pos rfl] at h; exact .inr ⟨rfl, h⟩
      | false => rw [hs, if_neg (by simp)] at h; cases h; exact .inl ⟨rfl, rfl⟩
theorem kidRun_step {α : Type} {q : Qn} {G : α → Nat → Option α} {s t u : α} {i m : Nat} (h : runs (kidDo q G) s m = some t) (hi : i < m) (hu : runs (kidDo q G) s i = some u) : ∃ (a' : Nat) (u' : α), q.kid i = (a' : Int) ∧ G u a' = some u' ∧ runs (kidDo q G) s (i + 1) = some u' := by
  obtain ⟨u', h1, h2⟩ := runs_step h hi hu
  unfold kidDo at h1
  cases ht : toA (q.kid i) with
  | none => rw [ht] at h1; cases h1
  | some a' =>
    rw [ht] at h1
    exact ⟨a', u', toA_some ht, h1, h2⟩
/-- What is told grows. -/
theorem runs_len {q : Qn} {E : Nat → Option (List Pr)} {l : List Pr} : ∀ {m i : Nat} {L Lk : List Pr}, runs (kidDo q fun u a' => (E a').map (u ++ ·)) l m = some L → i ≤ m → runs (kidDo q fun u a' => (E a').map (u ++ ·)) l i = some Lk → Lk.length ≤ L.length
  | 0, i, L, Lk, h, hi, hk => by
    have : i = 0 := by omega
    subst this
    rw [h] at hk
    cases hk
    exact Nat.le_refl _
  | m + 1, i, L, Lk, h, hi, hk => by
    by_cases e : i = m + 1
    · subst e
      rw [h] at hk
      cases hk
      exact Nat.le_refl _
    · obtain ⟨u, hu⟩ := runs_le h m (Nat.le_succ m)
      have ih := runs_len hu (by omega) hk
      obtain ⟨a', u', _, h3, h4⟩ := kidRun_step h (Nat.lt_succ_self m) hu
      rw [h] at h4
      cases h4
      cases hE : E a' with
      | none => rw [hE] at h3; cases h3
      | some v =>
        rw [hE] at h3
        simp at h3
        rw [← h3]
        simp
        omega
theorem kid_get {q : Qn} {i : Nat} (hi : i < 4) : ([V.sc (.int .i64 q.k0), V.sc (.int .i64 q.k1), V.sc (.int .i64 q.k2), V.sc (.int .i64 q.k3)] : List V)[i]? = some (V.sc (.int .i64 (q.kid i))) := by
  rcases (show i = 0 ∨ i = 1 ∨ i = 2 ∨ i = 3 by omega) with rfl | rfl | rfl | rfl <;> rfl
theorem kid_get' {q : Qn} {i : Nat} (hi : i < 4) : ([V.sc (.int .i64 q.k0), V.sc (.int .i64 q.k1), V.sc (.int .i64 q.k2), V.sc (.int .i64 q.k3)] : List V)[i]'(by simpa using hi) = V.sc (.int .i64 (q.kid i)) := by
  rcases (show i = 0 ∨ i = 1 ∨ i = 2 ∨ i = 3 by omega) with rfl | rfl | rfl | rfl <;> rfl
theorem clearF_some {n a : Nat} {s s' : Ar} (h : clearF n s a = some s') : ∃ n' q, n = n' + 1 ∧ s.A[a]? = some q ∧ ((q.split = false ∧ s' = s) ∨ (q.split = true ∧ runs (kidDo q fun u a' => (clearF n' u a').bind (freeF a')) s 4 = some s')) := by
  cases n with
  | zero => cases h
  | succ n =>
    unfold clearF at h
    cases hq : s.A[a]? with
    | none => rw [hq] at h; cases h
    | some q =>
      rw [hq] at h
      simp only at h
      refine ⟨n, q, rfl, rfl, ?_⟩
      cases hs : q.split with
      | true => rw [hs, if_pos rfl] at h; exact .inr ⟨rfl, h⟩
      | false => rw [hs, if_neg (by simp)] at h; cases h; exact .inl ⟨rfl, rfl⟩
theorem freeF_some {a : Nat} {u u' : Ar} (h : freeF a u = some u') : a < u.A.length ∧ u.fr.length ≤ big ∧ u' = ⟨u.A.set a zeroN, u.fr ++ [a]⟩ := by
  unfold freeF at h
  split at h
  · rename_i hc
    cases h
    exact ⟨hc.1, hc.2, rfl⟩
  · cases h
theorem mergeF_some {n a : Nat} {s s' : Ar} (h : mergeF n s a = some s') : ∃ l s1 q, eachF s.A n a = some l ∧ (l.length ≤ 1000000000 ∧ l ≠ []) ∧ clearF n s a = some s1 ∧ s1.A[a]? = some q ∧ s' = ⟨s1.A.set a { q with l := l, full := false, split := false, k0 := -1, k1 := -1, k2 := -1, k3 := -1 }, s1.fr⟩ := by
  unfold mergeF at h
  cases hl : eachF s.A n a with
  | none => rw [hl] at h; cases h
  | some l =>
    rw [hl] at h
    simp only at h
    by_cases hb : l.length ≤ 1000000000 ∧ l ≠ []
    rotate_left
    · rw [if_pos hb] at h; cases h
    rw [if_neg (fun e => e hb)] at h
    cases hc : clearF n s a with
    | none => rw [hc] at h; cases h
    | some s1 =>
      rw [hc] at h
      simp only at h
      cases hq : s1.A[a]? with
      | none => rw [hq] at h; cases h
      | some q =>
        rw [hq] at h
        cases h
        exact ⟨l, s1, q, rfl, hb, rfl, hq, rfl⟩
theorem goF_some {a : Nat} {s s' : Ar} {r : Pr} (h : goF s a r = some s') : ∃ q, s.A[a]? = some q ∧ okN q ∧ (∃ x ∈ q.l, x.id = r.id) ∧ s' = ⟨s.A.set a { q with many := q.many - 1, l := dropL r.id q.l, full := fullL r.id q.l q.full }, s.fr⟩ := by
  unfold goF at h
  cases hq : s.A[a]? with
  | none => rw [hq] at h; cases h
  | some q =>
    rw [hq] at h
    simp only at h
    by_cases hok : okN q ∧ (q.l.any fun x => decide (x.id = r.id)) = true
    rotate_left
    · rw [if_pos hok] at h; cases h
    rw [if_neg (fun e => e hok)] at h
    cases h
    exact ⟨q, rfl, hok.1, by simpa using hok.2, rfl⟩
theorem dropL_at {i : Int} : ∀ {l : List Pr} {k : Nat} {f : Bool} (hk : k < l.length), (∀ (j : Nat) (hj : j < l.length), j < k → l[j].id ≠ i) → l[k].id = i → dropL i l = l.take k ++ l.drop (k + 1) ∧ fullL i l f = (l.drop (k + 1)).isEmpty
  | r :: l, 0, f, hk, _, h => by
    have h : r.id = i := h
    simp [dropL, fullL, h]
  | r :: l, k + 1, f, hk, hn, h => by
    have h0 : r.id ≠ i := hn 0 (by simp) (by omega)
    have ih := dropL_at (l := l) (k := k) (f := f) (by simpa using hk) (fun j hj hjk => hn (j + 1) (by simpa using hj) (by omega)) (by simpa using h)
    simp [dropL, fullL, h0, ih.1, ih.2]
theorem flatP_take (l : List Pr) (k : Nat) : (l.flatMap Pr.cs).take (k * 4) = (l.take k).flatMap Pr.cs := by
  induction l generalizing k with
  | nil => simp
  | cons r l ih =>
    cases k with
    | zero => simp
    | succ k =>
      have e : (k + 1) * 4 = k * 4 + 1 + 1 + 1 + 1 := by omega
      rw [e, List.take_succ_cons, List.flatMap_cons, List.flatMap_cons, ← ih, Pr.cs_eq]
      rfl
theorem flatP_drop (l : List Pr) (k : Nat) : (l.flatMap Pr.cs).drop (k * 4) = (l.drop k).flatMap Pr.cs := by
  induction l generalizing k with
  | nil => simp
  | cons r l ih =>
    cases k with
    | zero => simp
    | succ k =>
      have e : (k + 1) * 4 = k * 4 + 1 + 1 + 1 + 1 := by omega
      rw [e, List.drop_succ_cons, List.flatMap_cons, ← ih, Pr.cs_eq]
      rfl
theorem flat_plen (l : List Pr) : (l.flatMap Pr.cs).length = l.length * 4 := AM.flat_len' (enc := Pr.cs) (sz := 4) (fun _ => rfl) l
theorem piece_head {l : List Pr} {k : Nat} (hk : k ≤ l.length) : AM.piece 4 (l.flatMap Pr.cs) 0 (k : Int) = (l.take k).flatMap Pr.cs := by
  unfold AM.piece
  simp
  exact flatP_take l k
theorem piece_tail {l : List Pr} {k : Nat} (hk : k ≤ l.length) : AM.piece 4 (l.flatMap Pr.cs) (k : Int) (l.length : Int) = (l.drop k).flatMap Pr.cs := by
  unfold AM.piece
  rw [Int.toNat_natCast, flatP_drop, show ((l.length : Int) - (k : Int)).toNat = l.length - k by omega, List.take_of_length_le]
  rw [flat_plen, List.length_drop]
  exact Nat.le_refl _
theorem dropF_some {b n a : Nat} {s s' : Ar} {r : Pr} (h : dropF b n s a r = some s') : ∃ n' q, n = n' + 1 ∧ s.A[a]? = some q ∧ okN q ∧
    ((q.split = false ∧ goF s a r = some s') ∨
     (q.split = true ∧ q.many - 1 ≤ b ∧ ∃ s1 q1, mergeF 18 ⟨s.A.set a { q with many := q.many - 1 }, s.fr⟩ a = some s1 ∧ s1.A[a]? = some q1 ∧ okN q1 ∧ goF ⟨s1.A.set a { q1 with many := q1.many + 1 }, s1.fr⟩ a r = some s') ∨
     (q.split = true ∧ ¬ q.many - 1 ≤ b ∧ ∃ a' : Nat, q.kid (kidF r.at_ q.c.l) = (a' : Int) ∧ dropF b n' ⟨s.A.set a { q with many := q.many - 1 }, s.fr⟩ a' r = some s')) := by
  cases n with
  | zero => cases h
  | succ n =>
    unfold dropF at h
    cases hq : s.A[a]? with
    | none => rw [hq] at h; cases h
    | some q =>
      rw [hq] at h
      simp only at h
      by_cases hok : okN q
      rotate_left
      · rw [if_pos hok] at h; cases h
      rw [if_neg (fun e => e hok)] at h
      refine ⟨n, q, rfl, rfl, hok, ?_⟩
      by_cases hs : q.split = true
      rotate_left
      · rw [if_neg hs] at h
        exact .inl ⟨by simpa using hs, h⟩
      · rw [if_pos hs] at h
        right
        by_cases hm : q.many - 1 ≤ b
        · rw [if_pos hm] at h
          left
          refine ⟨hs, hm, ?_⟩
          cases hmg : mergeF 18 ⟨s.A.set a { q with many := q.many - 1 }, s.fr⟩ a with
          | none => rw [hmg] at h; cases h
          | some s1 =>
            rw [hmg] at h
            simp only at h
            cases hq1 : s1.A[a]? with
            | none => rw [hq1] at h; cases h
            | some q1 =>
              rw [hq1] at h
              simp only at h
              by_cases hok1 : okN q1
              rotate_left
              · rw [if_pos hok1] at h; cases h
              rw [if_neg (fun e => e hok1)] at h
              exact ⟨s1, q1, rfl, hq1, hok1, h⟩
        · rw [if_neg hm] at h
          right
          refine ⟨hs, hm, ?_⟩
          cases ht : toA (q.kid (kidF r.at_ q.c.l)) with
          | none => rw [ht] at h; cases h
          | some a' => rw [ht] at h; exact ⟨a', toA_some ht, h⟩
theorem frS_app (l : List Nat) (x : Nat) : frS l ++ [.sc (.int .i64 (x : Nat))] = frS (l ++ [x]) := by simp [frS]
/-- The free places turn. -/
theorem TrA.free {H : List Bk} {r b nb mb cap : Nat} {s : Ar} {es : List Pr} (fr : List Nat) (h : TrA H r b nb mb cap s es) : TrA (H.set r (.cells (trC b nb s.A.length cap fr mb))) r b nb mb cap ⟨s.A, fr⟩ es := by
  refine ⟨?_, fun hc => ?_, ?_, h.le, h.rn, h.b0, by simpa using h.rl⟩
  · rw [List.getElem?_set_self h.rl]
  · rw [List.getElem?_set_ne (h.rn hc)]
    exact h.cn hc
  · rw [List.getElem?_set_ne h.rm]
    exact h.cm
theorem nd_agg {q : Qn} : ndV q = [.sc (.int .i64 q.c.l), .sc (.int .i64 q.c.x), .sc (.int .i64 q.c.y), .sc (.int .i64 q.k0), .sc (.int .i64 q.k1), .sc (.int .i64 q.k2), .sc (.int .i64 q.k3), .sc (.int .i64 q.many), .sc (.bool q.split), .nil] := rfl
theorem windF_some {A : List Qn} {rc : Re} {n a : Nat} {L : List Pr} (h : windF A rc n a = some L) : ∃ n' q, n = n' + 1 ∧ A[a]? = some q ∧ okN q ∧
    (((q.many = 0 ∨ meetsR (boxR q.c).1 rc = false) ∧ L = []) ∨
     (¬ (q.many = 0 ∨ meetsR (boxR q.c).1 rc = false) ∧ inB (boxR q.c).1 rc = true ∧ eachF A 18 a = some L) ∨
     (¬ (q.many = 0 ∨ meetsR (boxR q.c).1 rc = false) ∧ inB (boxR q.c).1 rc = false ∧ ((q.split = false ∧ L = q.l.filter fun r => hasR rc r.at_) ∨ (q.split = true ∧ runs (kidDo q fun u a' => (windF A rc n' a').map (u ++ ·)) (q.l.filter fun r => hasR rc r.at_) 4 = some L)))) := by
  cases n with
  | zero => cases h
  | succ n =>
    unfold windF at h
    cases hq : A[a]? with
    | none => rw [hq] at h; cases h
    | some q =>
      rw [hq] at h
      simp only at h
      by_cases hok : okN q
      rotate_left
      · rw [if_pos hok] at h; cases h
      rw [if_neg (fun e => e hok)] at h
      refine ⟨n, q, rfl, rfl, hok, ?_⟩
      by_cases h1 : q.many = 0 ∨ meetsR (boxR q.c).1 rc = false
      · rw [if_pos h1] at h
        cases h
        exact .inl ⟨h1, rfl⟩
      · rw [if_neg h1] at h
        right
        by_cases h2 : inB (boxR q.c).1 rc = true
        · rw [if_pos h2] at h
          exact .inl ⟨h1, h2, h⟩
        · rw [if_neg h2] at h
          right
          refine ⟨h1, by simpa using h2, ?_⟩
          by_cases hs : q.split = true
          · rw [if_pos hs] at h
            exact .inr ⟨hs, h⟩
          · rw [if_neg hs] at h
            cases h
            exact .inl ⟨by simpa using hs, rfl⟩
theorem deepF_some {A : List Qn} {n a : Nat} {d : Int} (h : deepF A n a = some d) : ∃ n' q, n = n' + 1 ∧ A[a]? = some q ∧ ((q.split = false ∧ d = q.c.l) ∨ (q.split = true ∧ runs (kidDo q fun d a' => (deepF A n' a').map (max d ·)) q.c.l 4 = some d)) := by
  cases n with
  | zero => cases h
  | succ n =>
    unfold deepF at h
    cases hq : A[a]? with
    | none => rw [hq] at h; cases h
    | some q =>
      rw [hq] at h
      simp only at h
      refine ⟨n, q, rfl, rfl, ?_⟩
      by_cases hs : q.split = true
      · rw [if_pos hs] at h
        exact .inr ⟨hs, h⟩
      · rw [if_neg hs] at h
        cases h
        exact .inl ⟨by simpa using hs, rfl⟩
theorem map_step {α : Type} {E : Option α} {g : α → α} {u' : α} (h : E.map g = some u') : ∃ v, E = some v ∧ u' = g v := by
  cases hE : E with
  | none => rw [hE] at h; cases h
  | some v =>
    rw [hE] at h
    simp at h
    exact ⟨v, rfl, h.symm⟩
end Go.Proofs.Ytmjnffjacgjfmaa
