/- Maps over an abstract state: made, asked, turned, gone through. Plain lemmas, over any program. -/
import Derived.Test.YtmjnffjacgjfmaaAi1
import Derived.WideKeyRuns
namespace Go.Proofs.Ytmjnffjacgjfmaa
set_option linter.all false
open Go.RowKit
namespace AM
section
variable {P : Program} {c : Cx} {N : Nat} {s : St} {F : Fr} {H : List Bk} {a : Act} {w : World} {K : St → Prop}

theorem Sim.drew (h : Sim c N s a w) : Sim c N s a w.drew := by
  refine ⟨⟨fun b o v hv => h.inv.imm b o v hv, h.inv.len, h.inv.lt, h.inv.uniq, fun id b k hb hk => ?_⟩, h.size, h.defers, fun t x hx => ?_⟩
  · obtain ⟨k1, k2, k3⟩ := h.inv.blk id b k hb hk
    refine ⟨k1, k2, ?_⟩
    by_cases hck : ∃ cs, k = .cells cs
    rotate_left
    · exact BRel.stay (fun cs e => hck ⟨cs, e⟩) k3 (fun _ _ _ h => h) (fun _ _ h => h) (fun _ _ h _ => h)
    obtain ⟨cs, rfl⟩ := hck
    obtain ⟨arr, e, g1, g2, g6, g3⟩ := k3
    exact ⟨arr, e, g1, g2, g6, fun j x v hx hv => ⟨(g3 j x v hx hv).1, SRel.mono (c := c) (c' := c) (w := w) (w' := w.drew) (fun _ _ _ h => h) (fun _ _ h => h) (fun _ _ _ hb => ⟨hb, rfl, fun _ => rfl⟩) (g3 j x v hx hv).2⟩⟩
  · obtain ⟨v, hv, hr⟩ := h.fr t x hx
    exact ⟨v, hv, SRel.mono (c := c) (c' := c) (w := w) (w' := w.drew) (fun _ _ _ h => h) (fun _ _ h => h) (fun _ _ _ hb => ⟨hb, rfl, fun _ => rfl⟩) hr⟩
theorem Ext.drew (c : Cx) (w : World) : Ext c w c w.drew := ⟨rfl, rfl, rfl, Nat.le_refl _, fun _ _ h => ⟨rfl, h, fun _ => rfl⟩, fun _ _ _ h => h, fun _ _ h => h⟩

/-- A world with another object in block b. -/
def turn (w : World) (b : Nat) (o : Obj) : World := { w with heap := w.heap.setIfInBounds b o }
theorem turn_other {b k : Nat} {o : Obj} (h : k ≠ b) : (turn w b o).heap[k]? = w.heap[k]? := by simp [turn, Array.getElem?_setIfInBounds, Ne.symm h]
theorem turn_self {b : Nat} {o : Obj} (h : b < w.heap.size) : (turn w b o).heap[b]? = some o := by simp [turn, Array.getElem?_setIfInBounds, h]
theorem turn_size {b : Nat} {o : Obj} : (turn w b o).heap.size = w.heap.size := by simp [turn]

theorem Sim.turn {id b : Nat} {k k' : Bk} {o : Obj} (h : Sim c N ⟨F, H⟩ a w) (hb : c.φ[id]? = some b) (hk : H[id]? = some k) (hnew : BRel c (turn w b o) id b k')
    (hit : ∀ i m l cu bm, H[i]? = some (.iter m l cu) → i ≠ id → c.φ[m]? = some bm → (∃ ents cl, w.heap[bm]? = some (.map ents cl)) → bm ≠ b) : Sim c N ⟨F, H.set id k'⟩ a (turn w b o) := by
  obtain ⟨hr, hi, _⟩ := h.inv.blk id b _ hb hk
  have hlt : id < H.length := (List.getElem?_eq_some_iff.1 hk).1
  have own : ∀ b' q, c.R b' = .own q → b' ≠ b := fun b' q hq e => by subst e; rw [hr] at hq; cases hq
  refine ⟨⟨fun b' o' v hv => ?_, by simpa using h.inv.len, fun b' hb' => by rw [turn_size]; exact h.inv.lt b' hb', h.inv.uniq, fun id' b' kk hb' hk' => ?_⟩, h.size, h.defers, fun t x hx => ?_⟩
  · have hne : b' ≠ b := by rintro rfl; rw [hi] at hv; cases hv
    rw [World.cell?_of_block (a := ⟨b', o', none⟩) (turn_other (w := w) (b := b) (o := o) hne)]
    exact h.inv.imm b' o' v hv
  · by_cases hid : id = id'
    · subst hid
      rw [hb] at hb'
      cases hb'
      have : (H.set id k')[id]? = some kk := hk'
      rw [List.getElem?_set_self hlt] at this
      cases this
      exact ⟨hr, hi, hnew⟩
    · have hk2 : H[id']? = some kk := by
        have hh : (H.set id k')[id']? = some kk := hk'
        rwa [List.getElem?_set_ne hid] at hh
      obtain ⟨k1, k2, k3⟩ := h.inv.blk id' b' kk hb' hk2
      have hne : b' ≠ b := by
        rintro rfl
        rw [hr] at k1
        exact hid (by simpa using k1)
      refine ⟨k1, k2, ?_⟩
      cases kk with
      | cells cs =>
        obtain ⟨arr, e, g1, g2, g6, g3⟩ := k3
        refine ⟨arr, e, (turn_other hne).trans g1, g2, g6, fun j x v hx hv => ⟨(g3 j x v hx hv).1, ?_⟩⟩
        exact SRel.mono (c := c) (c' := c) (w := w) (w' := AM.turn w b o) (fun _ _ _ h => h) (fun _ _ h => h) (fun b2 q _ hq => ⟨hq, turn_other (own b2 q hq), fun _ => rfl⟩) (g3 j x v hx hv).2
      | map es =>
        obtain ⟨ents, clock, h1, h2, h3, h4⟩ := k3
        exact ⟨ents, clock, (turn_other hne).trans h1, h2, h3, h4⟩
      | iter m l cu =>
        obtain ⟨bm, since, seen, ents, h1, h2, h3, h4, h5, h6, h7⟩ := k3
        exact ⟨bm, since, seen, ents, h1, (turn_other hne).trans h2, (turn_other (hit id' m l cu bm hk2 (Ne.symm hid) h1 ⟨_, _, h3⟩)).trans h3, h4, h5, h6, h7⟩
      | dead => trivial
  · obtain ⟨v, hv, hs⟩ := h.fr t x hx
    exact ⟨v, hv, SRel.mono (c := c) (c' := c) (w := w) (w' := AM.turn w b o) (fun _ _ _ h => h) (fun _ _ h => h) (fun b2 q _ hq => ⟨hq, turn_other (own b2 q hq), fun _ => rfl⟩) hs⟩
theorem Ext.turn {b : Nat} {o : Obj} (c : Cx) (w : World) (hb : c.R b ≠ .out) : Ext c w c (AM.turn w b o) :=
  ⟨rfl, rfl, rfl, by rw [turn_size]; exact Nat.le_refl _, fun k _ hk => ⟨turn_other (by rintro rfl; exact hb hk), hk, fun _ => rfl⟩, fun _ _ _ h => h, fun _ _ h => h⟩

/-- A map that is turned ends all walks over it. -/
def killB (m : Nat) : Bk → Bk
  | .iter m' l cu => bif m' == m then .dead else .iter m' l cu
  | k => k
def killIt (m : Nat) (H : List Bk) : List Bk := H.map (killB m)
theorem Sim.killIt (h : Sim c N ⟨F, H⟩ a w) (m : Nat) : Sim c N ⟨F, killIt m H⟩ a w := by
  refine ⟨⟨h.inv.imm, by simpa [AM.killIt] using h.inv.len, h.inv.lt, h.inv.uniq, fun id b k hb hk => ?_⟩, h.size, h.defers, h.fr⟩
  have hk : (H.map (killB m))[id]? = some k := hk
  rw [List.getElem?_map] at hk
  cases hk' : H[id]? with
  | none => rw [hk'] at hk; cases hk
  | some k' =>
    rw [hk'] at hk
    simp only [Option.map_some, Option.some.injEq] at hk
    subst hk
    obtain ⟨h1, h2, h3⟩ := h.inv.blk id b k' hb hk'
    refine ⟨h1, h2, ?_⟩
    unfold killB
    split
    · rename_i m' l cu
      cases hm : m' == m with
      | true => trivial
      | false => simpa using h3
    · exact h3
theorem killIt_get {m id : Nat} {k : Bk} (h : H[id]? = some k) : (killIt m H)[id]? = some (killB m k) := by
  unfold killIt
  rw [List.getElem?_map, h]
  rfl
theorem killIt_iter {m i m' : Nat} {l : List (Value × V)} {cu : Option (Value × V)} (h : (killIt m H)[i]? = some (.iter m' l cu)) : m' ≠ m := by
  unfold killIt at h
  rw [List.getElem?_map] at h
  cases hk : H[i]? with
  | none => rw [hk] at h; cases h
  | some k =>
    rw [hk] at h
    simp only [Option.map_some, Option.some.injEq] at h
    unfold killB at h
    split at h
    · rename_i m2 l2 c2
      cases hm : m2 == m with
      | true => rw [hm] at h; cases h
      | false =>
        rw [hm] at h
        cases h
        simpa using hm
    · rename_i hx
      exact absurd h (hx _ _ _)

/-! ## Keys -/
def keyB (P : Program) (t : TypeId) : Bool := match P.underlying t with
  | some .bool | some (.int _) | some .string => true
  | _ => false
theorem keyB_run {t : TypeId} (h : keyB P t = true) (e : Bool) (n : Nat) (v : Value) (w : World) : (Instr.checkKey e (n + 1) t v).run P w = .ok () w := by
  unfold keyB at h
  cases hu : P.underlying t with
  | none => rw [hu] at h; cases h
  | some d =>
    rw [hu] at h
    cases d
    case bool => simp only [Instr.checkKey, Sem.run_bind, run_underlying' hu, Result.andThen_ok]; cases v <;> simp
    case int => simp only [Instr.checkKey, Sem.run_bind, run_underlying' hu, Result.andThen_ok]; cases v <;> simp
    case string => simp only [Instr.checkKey, Sem.run_bind, run_underlying' hu, Result.andThen_ok]; cases v <;> simp
    all_goals cases h

/-- Where a key stands among entries. -/
def mfind (d : TypeDesc) (k : Value) : List (Value × V) → Nat → Option (Option (Nat × V))
  | [], _ => some none
  | (k', x) :: es, i => match Instr.sameNow d k k' with
    | some true => some (some (i, x))
    | some false => mfind d k es (i + 1)
    | none => none
theorem mfind_run {I : Nat → Nat → Option Value} {φ : List Nat} {d : TypeDesc} {k : Value} : ∀ {es : List (Value × V)} {l : List MapEntry} {i : Nat}, MRel I φ es l →
    (mfind d k es i = some none → Instr.findNow d k l i = some none) ∧
    ∀ j x, mfind d k es i = some (some (j, x)) → ∃ k' v, Instr.findNow d k l i = some (some (j, v)) ∧ Rel I φ x v ∧ i ≤ j ∧ es[j - i]? = some (k', x) ∧ Instr.sameNow d k k' = some true
  | _, _, i, .nil => ⟨fun _ => rfl, fun j x h => by cases h⟩
  | _, _, i, .cons (k := k0) (x := x0) (e := e) (es := es) (l := l) h1 h2 h3 => by
    obtain ⟨r1, r2⟩ := mfind_run (i := i + 1) h3
    unfold mfind Instr.findNow
    rw [h1]
    cases hs : Instr.sameNow d k k0 with
    | none => exact ⟨fun h => (by cases h), fun j x h => (by cases h)⟩
    | some b =>
      cases b with
      | true =>
        refine ⟨fun h => (by cases h), fun j x h => ?_⟩
        simp only [Option.some.injEq, Prod.mk.injEq] at h
        obtain ⟨rfl, rfl⟩ := h
        exact ⟨k0, e.val, rfl, h2, Nat.le_refl _, by simp, hs⟩
      | false =>
        refine ⟨r1, fun j x h => ?_⟩
        obtain ⟨k', v, q1, q2, q3, q4, q5⟩ := r2 j x h
        refine ⟨k', v, q1, q2, by omega, ?_, q5⟩
        rw [show j - i = (j - (i + 1)) + 1 by omega, List.getElem?_cons_succ]
        exact q4

theorem run_findKey {t : TypeId} {d : TypeDesc} {k : Value} {es : List MapEntry} {r : Option (Nat × Value)} (hu : P.underlying t = some d) (h : Instr.findNow d k es 0 = some r) (w : World) : (Instr.findKey t k es).run P w = .ok r w := by
  unfold Instr.findKey
  simp only [Sem.run_bind, run_underlying' hu, Result.andThen_ok, h, Sem.run_pure]

theorem sameNow_bits {d : TypeDesc} {k k' : Value} (h : Instr.sameNow d k k' = some true) (n : Nat) : Instr.sameBits n k' k = true := by
  unfold Instr.sameNow at h
  split at h
  · split at h
    · rename_i hk
      subst hk
      simp only [Option.some.injEq, beq_iff_eq] at h
      subst h
      cases n <;> simp [Instr.sameBits]
    · cases h
  · rename_i x y
    simp only [Option.some.injEq] at h
    have h2 : (y == x) = true := by
      rw [beq_toListBytes] at h ⊢
      simp at h ⊢
      exact h.symm
    cases n <;> simpa [Instr.sameBits] using h2
  · simp only [Option.some.injEq, beq_iff_eq] at h
    subst h
    cases n <;> simp [Instr.sameBits]
  · cases h

/-! ## Wide keys: rows and structs of numbers -/
def intT (P : Program) (e : TypeId) : Bool := match P.underlying e, aggT P e, sizeT P e with
  | some (.int _), some false, some 1 => true
  | _, _, _ => false
def fieldsI (P : Program) : Nat → List Field → Bool
  | _, [] => true
  | i, f :: fs => f.offset == i && (!(f.name == "_") && (intT P f.type && fieldsI P (i + 1) fs))
def wideN (P : Program) (t : TypeId) : Option Nat := match P.underlying t with
  | some (.array n e) => bif intT P e then some n else none
  | some (.struct fs) => bif fieldsI P 0 fs.toList && !(P.stoodInHeld t) then some fs.size else none
  | _ => none
def wsame : List Value → List Value → Option Bool
  | [], [] => some true
  | .int k a :: xs, .int k' b :: ys => if k = k' then (match wsame xs ys with
    | some r => some (a == b && r)
    | none => none) else none
  | _, _ => none
def wgo (k : List Value) : List (Value × V) → Nat → Option (Option (Nat × V))
  | [], _ => some none
  | (.agg cs, x) :: es, i => match wsame k cs.toList with
    | some true => some (some (i, x))
    | some false => wgo k es (i + 1)
    | none => none
  | _, _ => none
/-- Where a wide key stands among entries. -/
def wfind (P : Program) (t : TypeId) (k : Value) (es : List (Value × V)) : Option (Option (Nat × V)) := match wideN P t, k with
  | some n, .agg cs => if cs.size = n then wgo cs.toList es 0 else none
  | _, _ => none
/-- Where a key stands among entries. -/
def seekK (P : Program) (t : TypeId) (k : Value) (es : List (Value × V)) : Option (Option (Nat × V)) := bif keyB P t then (match P.underlying t with
  | some d => mfind d k es 0
  | none => none) else wfind P t k es
theorem intT_spec {e : TypeId} (h : intT P e = true) : (∃ k, P.underlying e = some (.int k)) ∧ aggT P e = some false ∧ sizeT P e = some 1 := by
  unfold intT at h
  split at h
  · rename_i h1 h2 h3
    exact ⟨⟨_, h1⟩, h2, h3⟩
  · cases h
theorem part_int {e : TypeId} (h : intT P e = true) {xs : Array Value} {off : Nat} {v : Value} (hx : xs[off]? = some v) (w : World) : (part e xs off).run P w = .ok v w := by
  obtain ⟨_, h2, _⟩ := intT_spec h
  simp only [part, Sem.run_bind, run_isAgg h2, Result.andThen_ok, Bool.false_eq_true, if_false, hx, Sem.run_pure]
theorem check_int {e : TypeId} (h : intT P e = true) (em : Bool) (n : Nat) (v : Value) (w : World) : (Instr.checkKey em (n + 1) e v).run P w = .ok () w := by
  obtain ⟨⟨k, h1⟩, _, _⟩ := intT_spec h
  exact keyB_run (by unfold keyB; rw [h1]) em n v w
theorem equal_int {e : TypeId} (h : intT P e = true) (d : Nat) (k : IntKind) (a b : Int) (w : World) : (Op.equalIn (d + 1) e (.int k a) (.int k b)).run P w = .ok (a == b) w := by
  obtain ⟨⟨q, h1⟩, _, _⟩ := intT_spec h
  simp only [Op.equalIn, Sem.run_bind, run_underlying' h1, Result.andThen_ok, if_true, Sem.run_pure]
theorem wsame_cons {xs ys : List Value} {x y : Value} {r : Bool} (h : wsame (x :: xs) (y :: ys) = some r) : ∃ k a b r', x = .int k a ∧ y = .int k b ∧ wsame xs ys = some r' ∧ r = (a == b && r') := by
  unfold wsame at h
  split at h
  · rename_i e1 _; cases e1
  · rename_i k a xs' k' b ys' e1 e2
    obtain ⟨rfl, rfl⟩ := List.cons.inj e1
    obtain ⟨rfl, rfl⟩ := List.cons.inj e2
    split at h
    · rename_i hk
      subst hk
      split at h
      · rename_i r' hr
        cases h
        exact ⟨_, _, _, r', rfl, rfl, hr, rfl⟩
      · cases h
    · cases h
  · cases h
theorem wsame_true : ∀ {xs ys : List Value}, wsame xs ys = some true → xs = ys
  | [], [], _ => rfl
  | x :: xs, y :: ys, h => by
    obtain ⟨k, a, b, r', rfl, rfl, h1, h2⟩ := wsame_cons h
    have h2 := h2.symm
    simp only [Bool.and_eq_true, beq_iff_eq] at h2
    rw [h2.1, wsame_true (h1.trans (by rw [h2.2]))]
  | [], _ :: _, h => by simp [wsame] at h
  | x :: xs, [], h => by cases x <;> simp [wsame] at h
theorem wsame_bits : ∀ {xs ys : List Value}, wsame xs ys = some true → ∀ n, (xs.zip ys).all (fun (x, y) => Instr.sameBits n x y) = true
  | [], [], _, _ => rfl
  | x :: xs, y :: ys, h, n => by
    obtain ⟨k, a, b, r', rfl, rfl, h1, h2⟩ := wsame_cons h
    have h2 := h2.symm
    simp only [Bool.and_eq_true, beq_iff_eq] at h2
    simp only [List.zip_cons_cons, List.all_cons, Bool.and_eq_true]
    refine ⟨?_, wsame_bits (h1.trans (by rw [h2.2])) n⟩
    cases n <;> simp [Instr.sameBits, h2.1]
  | [], _ :: _, h, _ => by simp [wsame] at h
  | x :: xs, [], h, _ => by cases x <;> simp [wsame] at h
theorem drop_get {xs : List Value} {i : Nat} (h : i < xs.length) : ∃ x, xs[i]? = some x ∧ xs.drop i = x :: xs.drop (i + 1) := ⟨xs[i], List.getElem?_eq_getElem h, List.drop_eq_getElem_cons h⟩
theorem items_run {e : TypeId} (he : intT P e = true) (d : Nat) {xs ys : Array Value} (w : World) : ∀ (m i : Nat) (r : Bool), i + m = xs.size → i + m = ys.size → wsame (xs.toList.drop i) (ys.toList.drop i) = some r →
    (Op.eqItems (d + 1) e 1 xs ys (List.range' i m)).run P w = .ok r w
  | 0, i, r, h1, h2, h => by
    rw [List.drop_of_length_le (by simp; omega), List.drop_of_length_le (by simp; omega)] at h
    cases h
    simp [Op.eqItems]
  | m + 1, i, r, h1, h2, h => by
    obtain ⟨x, hx, ex⟩ := drop_get (xs := xs.toList) (i := i) (by simp; omega)
    obtain ⟨y, hy, ey⟩ := drop_get (xs := ys.toList) (i := i) (by simp; omega)
    rw [ex, ey] at h
    obtain ⟨k, a, b, r', rfl, rfl, g1, rfl⟩ := wsame_cons h
    rw [List.range'_succ]
    simp only [Op.eqItems, Sem.run_bind, Nat.mul_one, part_int he (xs := xs) (by simpa using hx), part_int he (xs := ys) (by simpa using hy), Result.andThen_ok, equal_int he]
    cases hab : a == b with
    | false => simp
    | true =>
      simp only [Bool.not_true, Bool.false_eq_true, if_false, Bool.true_and]
      exact items_run he d w m (i + 1) r' (by omega) (by omega) g1
theorem fields_run (d : Nat) {xs ys : Array Value} (w : World) : ∀ (fs : List Field) (i : Nat) (r : Bool), fieldsI P i fs = true → i + fs.length = xs.size → i + fs.length = ys.size → wsame (xs.toList.drop i) (ys.toList.drop i) = some r →
    (Op.eqFields (d + 1) xs ys fs).run P w = .ok r w
  | [], i, r, _, h1, h2, h => by
    rw [List.drop_of_length_le (by simpa using Nat.le_of_eq h1.symm), List.drop_of_length_le (by simpa using Nat.le_of_eq h2.symm)] at h
    cases h
    simp [Op.eqFields]
  | f :: fs, i, r, hf, h1, h2, h => by
    simp only [fieldsI, Bool.and_eq_true, beq_iff_eq, Bool.not_eq_true'] at hf
    obtain ⟨f1, f2, f3, f4⟩ := hf
    simp only [List.length_cons] at h1 h2
    obtain ⟨x, hx, ex⟩ := drop_get (xs := xs.toList) (i := i) (by simp; omega)
    obtain ⟨y, hy, ey⟩ := drop_get (xs := ys.toList) (i := i) (by simp; omega)
    rw [ex, ey] at h
    obtain ⟨k, a, b, r', rfl, rfl, g1, rfl⟩ := wsame_cons h
    have hn : f.name ≠ "_" := by simpa using f2
    unfold Op.eqFields
    rw [if_pos hn, f1]
    simp only [Sem.run_bind, part_int f3 (xs := xs) (by simpa using hx), part_int f3 (xs := ys) (by simpa using hy), Result.andThen_ok, equal_int f3]
    cases hab : a == b with
    | false => simp
    | true =>
      simp only [Bool.not_true, Bool.false_eq_true, if_false, Bool.true_and]
      exact fields_run d w fs (i + 1) r' f4 (by omega) (by omega) g1
theorem wide_equal {t : TypeId} {n : Nat} (h : wideN P t = some n) {xs ys : Array Value} {r : Bool} (hx : xs.size = n) (hy : ys.size = n) (hr : wsame xs.toList ys.toList = some r) (w : World) : (Op.equal t (.agg xs) (.agg ys)).run P w = .ok r w := by
  unfold wideN at h
  unfold Op.equal
  have e9 : Op.maxDepth = (Op.maxDepth - 2 + 1) + 1 := rfl
  rw [e9]
  split at h
  · rename_i m e hu
    cases he : intT P e with
    | false => rw [he] at h; cases h
    | true =>
      rw [he] at h
      cases h
      obtain ⟨_, _, hs⟩ := intT_spec he
      unfold sizeT at hs
      cases hi : P.info? e with
      | none => rw [hi] at hs; cases hs
      | some inf =>
        have hc : P.cellsOf e = 1 := by
          rw [hi] at hs
          simpa [Program.cellsOf, hi] using hs
        rw [run_equalIn_array w (Op.maxDepth - 2 + 1) xs ys hu hi, hc, List.range_eq_range']
        exact items_run he _ w n 0 r (by omega) (by omega) (by simpa using hr)
  · rename_i fs hu
    cases hf : (fieldsI P 0 fs.toList && !(P.stoodInHeld t)) with
    | false => rw [hf] at h; cases h
    | true =>
      rw [hf] at h
      cases h
      simp only [Bool.and_eq_true, Bool.not_eq_true'] at hf
      have hfs : P.fieldsOf t = fs := by simp [Program.fieldsOf, hu]
      rw [run_equalIn_agg w (Op.maxDepth - 2 + 1) t xs ys (by rw [hfs]; exact hu) hf.2, hfs]
      exact fields_run _ w fs.toList 0 r hf.1 (by simp; omega) (by simp; omega) (by simpa using hr)
  · cases h
theorem wide_check {t : TypeId} {n : Nat} (h : wideN P t = some n) {xs : Array Value} (hx : xs.size = n) (em : Bool) (q : Nat) (w : World) : (Instr.checkKey em (q + 2) t (.agg xs)).run P w = .ok () w := by
  unfold wideN at h
  split at h
  · rename_i m e hu
    cases he : intT P e with
    | false => rw [he] at h; cases h
    | true =>
      rw [he] at h
      cases h
      obtain ⟨_, _, hs⟩ := intT_spec he
      rw [show q + 2 = (q + 1) + 1 from rfl]
      unfold Instr.checkKey
      simp only [Sem.run_bind, run_underlying' hu, Result.andThen_ok]
      simp only [Std.Legacy.Range.forIn_eq_forIn_range', Std.Legacy.Range.size, Nat.sub_zero, Nat.add_one_sub_one, Nat.div_one]
      have go : ∀ (k i : Nat), i + k = xs.size → (forIn (List.range' i k) PUnit.unit (fun i r => do
          let a ← sizeOf e
          let b ← part e xs (i * a)
          Instr.checkKey em (q + 1) e b
          pure (ForInStep.yield PUnit.unit)) : Sem PUnit).run P w = .ok () w := by
        intro k
        induction k with
        | zero => intro i _; simp
        | succ k ih =>
          intro i hi
          obtain ⟨x, hxx, _⟩ := drop_get (xs := xs.toList) (i := i) (by simp; omega)
          rw [List.range'_succ]
          simp only [List.forIn_cons, Sem.run_bind, run_sizeOf hs, Result.andThen_ok, Nat.mul_one, part_int he (xs := xs) (off := i) (by simpa using hxx), check_int he, Sem.run_pure]
          exact ih (i + 1) (by omega)
      have := go n 0 (by omega)
      simp at this ⊢
      rw [this]
      rfl
  · rename_i fs hu
    cases hf : (fieldsI P 0 fs.toList && !(P.stoodInHeld t)) with
    | false => rw [hf] at h; cases h
    | true =>
      rw [hf] at h
      cases h
      simp only [Bool.and_eq_true, Bool.not_eq_true'] at hf
      rw [show q + 2 = (q + 1) + 1 from rfl]
      unfold Instr.checkKey
      simp only [Sem.run_bind, run_underlying' hu, Result.andThen_ok]
      have go : ∀ (gs : List Field) (i : Nat), fieldsI P i gs = true → i + gs.length = xs.size → (forIn gs PUnit.unit (fun (f : Field) r => do
          if f.name ≠ "_" then
            let b ← part f.type xs f.offset
            Instr.checkKey em (q + 1) f.type b
            pure (ForInStep.yield PUnit.unit)
          else pure (ForInStep.yield PUnit.unit)) : Sem PUnit).run P w = .ok () w := by
        intro gs
        induction gs with
        | nil => intro i _ _; simp
        | cons g gs ih =>
          intro i hg hi
          simp only [fieldsI, Bool.and_eq_true, beq_iff_eq, Bool.not_eq_true'] at hg
          obtain ⟨f1, f2, f3, f4⟩ := hg
          simp only [List.length_cons] at hi
          obtain ⟨x, hxx, _⟩ := drop_get (xs := xs.toList) (i := i) (by simp; omega)
          have hn : g.name ≠ "_" := by simpa using f2
          simp only [List.forIn_cons, Sem.run_bind, if_pos hn, f1, part_int f3 (xs := xs) (off := i) (by simpa using hxx), Result.andThen_ok, check_int f3, Sem.run_pure]
          exact ih (i + 1) f4 (by omega)
      have := go fs.toList 0 hf.1 (by simp; omega)
      rw [← Array.forIn_toList]
      simp at this ⊢
      rw [this]
      rfl
  · cases h
/-- What is known of a key's place. -/
structure Seeks (P : Program) (I : Nat → Nat → Option Value) (φ : List Nat) (t : TypeId) (k : Value) (es : List (Value × V)) (l : List MapEntry) (r : Option (Nat × V)) : Prop where
  chk : ∀ (em : Bool) (w : World), (Instr.checkKey em 10000 t k).run P w = .ok () w
  no : r = none → ∀ w, (Instr.findKey t k l).run P w = .ok none w
  yes : ∀ j x, r = some (j, x) → ∃ k' v, (∀ w, (Instr.findKey t k l).run P w = .ok (some (j, v)) w) ∧ Rel I φ x v ∧ es[j]? = some (k', x) ∧ Instr.sameBits 10000 k' k = true
theorem wgo_run {I : Nat → Nat → Option Value} {φ : List Nat} {t : TypeId} {n : Nat} (hw : wideN P t = some n) {cs : Array Value} (hc : cs.size = n) : ∀ {es : List (Value × V)} {l : List MapEntry} {i : Nat}, MRel I φ es l →
    (wgo cs.toList es i = some none → ∀ w, (Instr.findAsking t (.agg cs) l i).run P w = .ok none w) ∧
    ∀ j x, wgo cs.toList es i = some (some (j, x)) → ∃ k' v, (∀ w, (Instr.findAsking t (.agg cs) l i).run P w = .ok (some (j, v)) w) ∧ Rel I φ x v ∧ i ≤ j ∧ es[j - i]? = some (k', x) ∧ Instr.sameBits 10000 k' (.agg cs) = true
  | _, _, i, .nil => ⟨fun _ w => by simp [Instr.findAsking], fun j x h => by cases h⟩
  | _, _, i, .cons (k := k0) (x := x0) (e := e) (es := es) (l := l) h1 h2 h3 => by
    obtain ⟨r1, r2⟩ := wgo_run hw hc (i := i + 1) h3
    cases k0 with
    | agg ds =>
      unfold wgo
      cases hs : wsame cs.toList ds.toList with
      | none => exact ⟨fun h => (by cases h), fun j x h => (by cases h)⟩
      | some b =>
        have hd : ds.size = n := by
          have : ∀ {xs ys : List Value} {r : Bool}, wsame xs ys = some r → xs.length = ys.length := by
            intro xs
            induction xs with
            | nil => intro ys r h; cases ys with
              | nil => rfl
              | cons => simp [wsame] at h
            | cons x xs ih => intro ys r h; cases ys with
              | nil => cases x <;> simp [wsame] at h
              | cons y ys =>
                obtain ⟨_, _, _, r', _, _, g, _⟩ := wsame_cons h
                simp [ih g]
          have := this hs
          simp at this
          omega
        have heq : ∀ w, (Op.equal t (.agg cs) e.key).run P w = .ok b w := fun w => by rw [h1]; exact wide_equal hw hc hd hs w
        cases b with
        | true =>
          refine ⟨fun h => (by cases h), fun j x h => ?_⟩
          simp only [Option.some.injEq, Prod.mk.injEq] at h
          obtain ⟨rfl, rfl⟩ := h
          refine ⟨.agg ds, e.val, fun w => ?_, h2, Nat.le_refl _, by simp, ?_⟩
          · simp only [Instr.findAsking, Sem.run_bind, heq, Result.andThen_ok, if_true, Sem.run_pure]
          · have he : cs = ds := Array.toList_inj.1 (wsame_true hs)
            subst he
            have := wsame_bits hs 9999
            rw [show (10000 : Nat) = 9999 + 1 from rfl]
            unfold Instr.sameBits
            simp only [beq_self_eq_true, Bool.true_and]
            exact this
        | false =>
          refine ⟨fun h w => ?_, fun j x h => ?_⟩
          · simp only [Instr.findAsking, Sem.run_bind, heq, Result.andThen_ok, Bool.false_eq_true, if_false]
            exact r1 h w
          · obtain ⟨k', v, q1, q2, q3, q4, q5⟩ := r2 j x h
            refine ⟨k', v, fun w => ?_, q2, by omega, ?_, q5⟩
            · simp only [Instr.findAsking, Sem.run_bind, heq, Result.andThen_ok, Bool.false_eq_true, if_false]
              exact q1 w
            · rw [show j - i = (j - (i + 1)) + 1 by omega, List.getElem?_cons_succ]
              exact q4
    | _ => exact ⟨fun h => (by cases h), fun j x h => (by cases h)⟩
theorem seek_run {I : Nat → Nat → Option Value} {φ : List Nat} {t : TypeId} {k : Value} {es : List (Value × V)} {l : List MapEntry} {r : Option (Nat × V)} (hs : seekK P t k es = some r) (hl : MRel I φ es l) : Seeks P I φ t k es l r := by
  have e9 : (10000 : Nat) = 9999 + 1 := rfl
  unfold seekK at hs
  cases hk : keyB P t with
  | true =>
    rw [hk] at hs
    simp only [cond_true] at hs
    cases hd : P.underlying t with
    | none => rw [hd] at hs; cases hs
    | some d =>
      rw [hd] at hs
      simp only at hs
      obtain ⟨m1, m2⟩ := mfind_run (d := d) (k := k) (i := 0) hl
      refine ⟨fun em w => by rw [e9]; exact keyB_run hk em _ _ w, fun e w => ?_, fun j x e => ?_⟩
      · subst e
        exact run_findKey hd (m1 hs) w
      · subst e
        obtain ⟨k', u, q1, q2, _, q4, q5⟩ := m2 j x hs
        exact ⟨k', u, fun w => run_findKey hd q1 w, q2, by simpa using q4, sameNow_bits q5 10000⟩
  | false =>
    rw [hk] at hs
    simp only [cond_false] at hs
    unfold wfind at hs
    split at hs
    · rename_i n cs hw
      split at hs
      · rename_i hc
        obtain ⟨m1, m2⟩ := wgo_run hw hc (i := 0) hl
        have hwd : (match P.underlying t with | some (.array _ _) | some (.struct _) => true | _ => false) = true := by
          unfold wideN at hw
          split at hw
          · rfl
          · rfl
          · cases hw
        refine ⟨fun em w => wide_check hw hc em 9998 w, fun e w => ?_, fun j x e => ?_⟩
        · subst e
          rw [run_findKey_eq w hwd]
          exact m1 hs w
        · subst e
          obtain ⟨k', u, q1, q2, _, q4, q5⟩ := m2 j x hs
          exact ⟨k', u, fun w => by rw [run_findKey_eq w hwd]; exact q1 w, q2, by simpa using q4, q5⟩
      · cases hs
    · cases hs

theorem MRel.get {I : Nat → Nat → Option Value} {φ : List Nat} {es : List (Value × V)} {l : List MapEntry} (h : MRel I φ es l) : es.length = l.length ∧ ∀ (i : Nat) (k : Value) (x : V), es[i]? = some (k, x) → ∃ e : MapEntry, l[i]? = some e ∧ e.key = k ∧ Rel I φ x e.val := by
  induction h with
  | nil => exact ⟨rfl, fun i k x h => by simp at h⟩
  | cons h1 h2 _ ih =>
    refine ⟨by simp [ih.1], fun i k x h => ?_⟩
    cases i with
    | zero => simp only [List.getElem?_cons_zero, Option.some.injEq, Prod.mk.injEq] at h; obtain ⟨rfl, rfl⟩ := h; exact ⟨_, rfl, h1, h2⟩
    | succ i => simpa using ih.2 i k x (by simpa using h)
theorem MRel.of_get {I : Nat → Nat → Option Value} {φ : List Nat} : ∀ {es : List (Value × V)} {l : List MapEntry}, es.length = l.length → (∀ (i : Nat) (k : Value) (x : V) (e : MapEntry), es[i]? = some (k, x) → l[i]? = some e → e.key = k ∧ Rel I φ x e.val) → MRel I φ es l
  | [], [], _, _ => .nil
  | [], _ :: _, h, _ => by simp at h
  | _ :: _, [], h, _ => by simp at h
  | (k, x) :: es, e :: l, h, hh => .cons (hh 0 k x e rfl rfl).1 (hh 0 k x e rfl rfl).2 (MRel.of_get (by simpa using h) fun i k x e h1 h2 => hh (i + 1) k x e (by simpa using h1) (by simpa using h2))
theorem MRel.append {I : Nat → Nat → Option Value} {φ : List Nat} {es : List (Value × V)} {l : List MapEntry} (h : MRel I φ es l) {k : Value} {x : V} {e : MapEntry} (h1 : e.key = k) (h2 : Rel I φ x e.val) : MRel I φ (es ++ [(k, x)]) (l ++ [e]) := by
  induction h with
  | nil => exact .cons h1 h2 .nil
  | cons q1 q2 _ ih => exact .cons q1 q2 ih
theorem MRel.eraseIdx {I : Nat → Nat → Option Value} {φ : List Nat} {es : List (Value × V)} {l : List MapEntry} (h : MRel I φ es l) : ∀ i, MRel I φ (es.eraseIdx i) (l.eraseIdx i) := by
  induction h with
  | nil => intro i; exact .nil
  | cons q1 q2 q3 ih =>
    intro i
    cases i with
    | zero => exact q3
    | succ i => exact .cons q1 q2 (ih i)

/-! ## A map is made -/
def aMakeMap (N : Nat) (dst : Option Tmp) (r : Option Operand) (s : St) (K : St → Prop) : Prop := match r, dst with
  | none, some d => d < N ∧ K ⟨putF d (.v (.map s.H.length)) s.F, s.H ++ [.map []]⟩
  | _, _ => False
theorem Sim.layObj {o : Obj} {k : Bk} (h : Sim c N ⟨F, H⟩ a w) (hn : ∀ cs, k ≠ .cells cs) (hk : BRel (c.lay w.heap.size) (w.alloc o) H.length w.heap.size k) : Sim (c.lay w.heap.size) N ⟨F, H ++ [k]⟩ a (w.alloc o) := by
  refine ⟨⟨fun b j v hv => cell_alloc' (h.inv.imm b j v hv), by simp [Cx.lay, h.inv.len], fun b hb => ?_, fun b b' r hb hb' => ?_, fun id b kk hb hk' => ?_⟩, h.size, h.defers, fun t x hx => ?_⟩
  · unfold Cx.lay at hb
    by_cases hbs : b = w.heap.size
    · subst hbs; simp
    · simp only [hbs, if_false] at hb
      have := h.inv.lt b hb
      simp; omega
  · unfold Cx.lay at hb hb'
    by_cases h1 : b = w.heap.size
    · simp [h1] at hb
    · by_cases h2 : b' = w.heap.size
      · simp [h2] at hb'
      · simp only [h1, h2, if_false] at hb hb'
        exact h.inv.uniq b b' r hb hb'
  · rcases phi_lay hb with hb | ⟨rfl, rfl⟩
    · have hlt : id < H.length := by have := h.inv.len; rw [← this]; exact (List.getElem?_eq_some_iff.1 hb).1
      have hk2 : (H ++ [k])[id]? = some kk := hk'
      rw [List.getElem?_append_left hlt] at hk2
      obtain ⟨h4, h2, h3⟩ := h.inv.blk id b kk hb hk2
      have hbl := h.inv.lt b (by rw [h4]; simp)
      refine ⟨by simp [Cx.lay, Nat.ne_of_lt hbl, h4], h2, ?_⟩
      by_cases hck : ∃ cs, kk = .cells cs
      · obtain ⟨cs, rfl⟩ := hck
        obtain ⟨arr', e', g1, g2, g6, g3⟩ := h3
        exact ⟨arr', e', (heap_alloc_lt hbl).trans g1, g2, g6, fun j x v hx hv => ⟨(g3 j x v hx hv).1, (g3 j x v hx hv).2.lay h.inv _⟩⟩
      · exact BRel.stay (fun cs e => hck ⟨cs, e⟩) h3 (fun _ _ _ h => h) (fun _ _ h => lay_phi _ h) (fun _ _ h _ => alloc_obj h)
    · have hk2 : (H ++ [k])[c.φ.length]? = some kk := hk'
      have hl := h.inv.len
      simp only at hl
      rw [hl, List.getElem?_append_right (Nat.le_refl _)] at hk2
      simp at hk2
      subst hk2
      refine ⟨by simp [Cx.lay], fun o => fresh_imm h.inv _ o (Nat.le_refl _), ?_⟩
      rw [hl]
      exact hk
  · obtain ⟨v, hv, h1⟩ := h.fr t x hx
    exact ⟨v, hv, h1.lay h.inv _⟩
theorem lay_get (h : Inv c H w) (b : Nat) : (c.lay b).φ[H.length]? = some b := by rw [← h.len]; simp [Cx.lay]

theorem aMakeMap_acts {o : Oper} {t : TypeId} {r : Option Operand} (ho : o.op = .makeMap t r) (h : Sim c N s a w) (hk : aMakeMap N o.dst r s K) : Acts P o a w (Post c w N K) := by
  unfold aMakeMap at hk
  split at hk
  · rename_i d hd
    obtain ⟨h1, hk⟩ := hk
    have hs : Sim (c.lay w.heap.size) N ⟨s.F, s.H ++ [.map []]⟩ a (w.alloc (.map #[] 0)) := Sim.layObj (F := s.F) (H := s.H) h (fun _ e => by cases e) ⟨#[], 0, heap_alloc_new w _, .nil, fun e he => by simp at he, by simp⟩
    refine acts_value (v := .map (some w.heap.size)) (w' := w.alloc (.map #[] 0)) ?_ ?_
    · unfold execOp
      simp only [ho, Instr.makeMap, Option.map_none, Sem.run_bind, newObj, Sem.run, Result.andThen_ok, Sem.run_pure]
      rfl
    · rw [hd]
      exact ⟨_, _, hs.put h1 (x := .v (.map s.H.length)) trivial (Rel.map (lay_get h.inv _)), (Ext.lay c w _).trans (Ext.free _ _ _), hk⟩
  · exact hk.elim

/-! ## A map is asked -/
def zeroV (P : Program) (t : TypeId) : Option V := match zeroT P t with
  | some z => some (V.ofPart z)
  | none => none
/-- The entries of a map value. -/
def entsOf (s : St) (x : Operand) : Option (List (Value × V)) := match evalV s x with
  | some (.map id) => match s.H[id]? with
    | some (.map es) => some es
    | _ => none
  | some (.sc (.map none)) => some []
  | _ => none
def lookV (ok : Bool) (y : V) (b : Bool) : V := bif ok then .tup [y, .sc (.bool b)] else y
def aLookup (P : Program) (N : Nat) (dst : Option Tmp) (t : TypeId) (x y : Operand) (ok : Bool) (s : St) (K : St → Prop) : Prop := match P.underlying t, entsOf s x, valOf s y with
  | some (.map kt et), some es, some k => (match zeroV P et with
    | some z => match seekK P kt k es with
      | some (some (_, v)) => putK N dst (.v (lookV ok v true)) s K
      | some none => putK N dst (.v (lookV ok z false)) s K
      | none => False
    | _ => False)
  | _, _, _ => False
theorem entsOf_run {x : Operand} {es : List (Value × V)} (h : Sim c N s a w) (hx : entsOf s x = some es) :
    (a.eval x = .map none ∧ es = []) ∨ ∃ id b ents clock, evalV s x = some (.map id) ∧ c.φ[id]? = some b ∧ s.H[id]? = some (.map es) ∧ a.eval x = .map (some b) ∧ w.heap[b]? = some (.map ents clock) ∧ MRel c.I c.φ es ents.toList ∧ (∀ e ∈ ents.toList, e.born < clock) ∧ (ents.toList.map (·.born)).Nodup := by
  unfold entsOf at hx
  split at hx
  · rename_i id hv
    cases hk : s.H[id]? with
    | none => rw [hk] at hx; cases hx
    | some k =>
      rw [hk] at hx
      cases k with
      | map es' =>
        cases hx
        have hr := evalV_rel h hv
        generalize hxv : a.eval x = xv at hr
        cases hr with
        | map hb =>
          obtain ⟨_, _, ents, clock, h1, h2, h3, h4⟩ := h.inv.blk id _ _ hb hk
          exact .inr ⟨id, _, ents, clock, hv, hb, hk, rfl, h1, h2, h3, h4⟩
      | _ => cases hx
  · rename_i hv
    cases hx
    exact .inl ⟨Rel.exact (evalV_rel h hv) rfl, rfl⟩
  · cases hx
theorem run_getObj {b : Nat} {o : Obj} (h : w.heap[b]? = some o) (ho : ∀ arr e f, o ≠ Obj.cells arr e f) : (getObj b).run P w = .ok o w := by
  unfold getObj
  simp only [Sem.run, h]

theorem aLookup_reads {o : Oper} {t : TypeId} {x y : Operand} {ok : Bool} (ho : o.op = .lookup t x y ok) (h : Sim c N s a w) (hk : aLookup P N o.dst t x y ok s K) : Reads P o a w (Post c w N K) := by
  unfold aLookup at hk
  split at hk
  · rename_i kt et es k hu hx hy
    unfold zeroV at hk
    cases hz : zeroT P et with
    | none => rw [hz] at hk; exact hk.elim
    | some z =>
      rw [hz] at hk
      simp only at hk
      have hyv := valOf_eq h hy
      have fin : ∀ v (b : Bool) (y : V), Rel c.I c.φ y v → putK N o.dst (.v (lookV ok y b)) s K → (∀ w', Agree w w' → (Instr.lookup t (a.eval x) k ok).run P w' = .ok (if ok then .tuple #[v, .bool b] else v) w') → Reads P o a w (Post c w N K) := fun v b y hr hp hrun => by
        refine ⟨_, fun w' hw => ?_, putK_post h hp (v := if ok then .tuple #[v, .bool b] else v) fun _ _ => ?_⟩
        · have hw := hw (by rw [ho]; rfl)
          unfold execOp
          simp only [ho, hyv, Sem.run_bind, hrun w' hw, Result.andThen_ok, Sem.run_pure]
        · cases ok
          · exact hr
          · exact Rel.tup (vs := #[v, .bool b]) (.cons hr (.cons (.sc _) .nil))
      cases hm : seekK P kt k es with
      | none => rw [hm] at hk; exact hk.elim
      | some r =>
        rw [hm] at hk
        rcases entsOf_run h hx with ⟨hxv, rfl⟩ | ⟨id, b, ents, clock, _, hb, hH, hxv, h1, h2, h3, h4⟩
        · have sk := seek_run (I := c.I) (φ := c.φ) hm (.nil)
          cases r with
          | some q =>
            obtain ⟨j, v⟩ := q
            obtain ⟨k', _, _, _, q4, _⟩ := sk.yes j v rfl
            simp at q4
          | none =>
          refine fin z false _ (ofPart_rel z) hk fun w' _ => ?_
          rw [hxv]
          simp only [Instr.lookup, Sem.run_bind, run_underlying' hu, Result.andThen_ok, Sem.run_pure]
          rw [sk.chk]
          simp only [Result.andThen_ok, sk.no rfl w', Sem.run_bind, run_zeroValue hz, Sem.run_pure]
        · have sk := seek_run (I := c.I) (φ := c.φ) hm h2
          have body : ∀ r w', Agree w w' → (Instr.findKey kt k ents.toList).run P w' = .ok r w' → ∀ u bb, (match r with | some (_, v) => (v, true) | none => (z, false)) = (u, bb) → (Instr.lookup t (a.eval x) k ok).run P w' = .ok (if ok then .tuple #[u, .bool bb] else u) w' := by
            intro r w' hw hfk u bb hub
            rw [hxv]
            have hg : w'.heap[b]? = some (.map ents clock) := (hw b (obj_lt h1)).trans h1
            have hgo := run_getObj (P := P) (w := w') hg (fun _ _ _ e => by cases e)
            simp only [Instr.lookup, Sem.run_bind, run_underlying' hu, Result.andThen_ok, hgo, Sem.run_pure]
            rw [sk.chk]
            simp only [Result.andThen_ok, hfk]
            cases r with
            | none =>
              simp only [Prod.mk.injEq] at hub
              obtain ⟨rfl, rfl⟩ := hub
              simp only [Sem.run_bind, run_zeroValue hz, Result.andThen_ok, Sem.run_pure]
            | some q =>
              obtain ⟨j, v⟩ := q
              simp only [Prod.mk.injEq] at hub
              obtain ⟨rfl, rfl⟩ := hub
              simp only [Sem.run_bind, Sem.run_pure, Result.andThen_ok]
          cases r with
          | none => exact fin z false _ (ofPart_rel z) hk fun w' hw => body none w' hw (sk.no rfl w') _ _ rfl
          | some q =>
            obtain ⟨j, v⟩ := q
            obtain ⟨k', u, q1, q2, _, _⟩ := sk.yes j v rfl
            exact fin u true _ q2 hk fun w' hw => body (some (j, u)) w' hw (q1 w') _ _ rfl
  · exact hk.elim

/-! ## A map is turned -/
def aMapUpdate (P : Program) (dst : Option Tmp) (t : TypeId) (x y z : Operand) (s : St) (K : St → Prop) : Prop := dst = none ∧ match P.underlying t, evalV s x, valOf s y, evalV s z with
  | some (.map kt _), some (.map id), some k, some v => (match s.H[id]? with
    | some (.map es) => match seekK P kt k es with
      | some (some (i, _)) => K ⟨s.F, (killIt id s.H).set id (.map (es.set i (k, v)))⟩
      | some none => K ⟨s.F, (killIt id s.H).set id (.map (es ++ [(k, v)]))⟩
      | none => False
    | _ => False)
  | _, _, _, _ => False
theorem run_setObj {b : Nat} {o o' : Obj} (h : w.heap[b]? = some o) (ho : ∀ arr e f, o ≠ Obj.cells arr e f) : (setObj b o').run P w = .ok () (AM.turn w b o') := by
  unfold setObj
  simp only [Sem.run, h]
  cases o <;> first | rfl | exact absurd rfl (ho _ _ _)

theorem aMapUpdate_acts {o : Oper} {t : TypeId} {x y z : Operand} (ho : o.op = .mapUpdate t x y z ∨ o.op = .insert t x y z) (h : Sim c N s a w) (hk : aMapUpdate P o.dst t x y z s K) : Acts P o a w (Post c w N K) := by
  obtain ⟨hdst, hk⟩ := hk
  split at hk
  · rename_i kt et id k v hu hx hy hz
    · cases hH : s.H[id]? with
      | none => rw [hH] at hk; exact hk.elim
      | some blk =>
        rw [hH] at hk
        cases blk with
        | map es =>
          simp only at hk
          have hr := evalV_rel h hx
          generalize hxv : a.eval x = xv at hr
          cases hr with
          | map hb =>
            rename_i b
            obtain ⟨hR, _, ents, clock, h1, h2, h3, h4⟩ := h.inv.blk id b _ hb hH
            have hyv := valOf_eq h hy
            have hzv := evalV_rel h hz
            have hgo := run_getObj (P := P) (w := w) h1 (fun _ _ _ e => by cases e)
            have hlt := obj_lt h1
            have kill := Sim.killIt (F := s.F) (H := s.H) h id
            have hkid : (killIt id s.H)[id]? = some (.map es) := killIt_get hH
            have run : ∀ w', (Instr.mapUpdate t (.map (some b)) k (a.eval z)).run P w = .ok () w' → (execOp a.eval o).run P w = .ok .skip w' := fun w' hw => by
              unfold execOp
              rcases ho with ho | ho <;> simp only [ho, hxv, hyv, Sem.run_bind, hw, Result.andThen_ok, Sem.run_pure]
            cases hm : seekK P kt k es with
            | none => rw [hm] at hk; exact hk.elim
            | some r =>
              rw [hm] at hk
              have sk := seek_run (I := c.I) (φ := c.φ) hm h2
              cases r with
              | none =>
                have hfk := sk.no rfl w
                refine acts_skip (run _ ?_) ⟨c, ⟨s.F, (killIt id s.H).set id (.map (es ++ [(k, v)]))⟩, ?_, Ext.turn (o := .map (ents.push { key := k, val := a.eval z, born := clock }) (clock + 1)) c w (by rw [hR]; simp), hk⟩
                · simp only [Instr.mapUpdate, Sem.run_bind, run_underlying' hu, Result.andThen_ok, hgo]
                  rw [sk.chk]
                  simp only [Result.andThen_ok, hfk]
                  exact run_setObj h1 (fun _ _ _ e => by cases e)
                · rw [hdst]
                  refine Sim.turn kill hb hkid ⟨_, _, turn_self hlt, ?_, ?_, ?_⟩ fun i m l cu bm hi _ hm' _ => ?_
                  · rw [Array.toList_push]
                    exact h2.append rfl hzv
                  · intro e he
                    rw [Array.toList_push] at he
                    rcases List.mem_append.1 he with he | he
                    · exact Nat.lt_succ_of_lt (h3 e he)
                    · simp at he; subst he; exact Nat.lt_succ_self _
                  · rw [Array.toList_push, List.map_append]
                    refine List.nodup_append.2 ⟨h4, by simp, fun p hp q hq => ?_⟩
                    simp at hq
                    subst hq
                    obtain ⟨e, he, rfl⟩ := List.mem_map.1 hp
                    exact Nat.ne_of_lt (h3 e he)
                  · rintro rfl
                    have hne := killIt_iter hi
                    have hq1 := h.inv.blk m bm
                    cases hHm : s.H[m]? with
                    | none =>
                      have := (List.getElem?_eq_some_iff.1 hm').1
                      rw [h.inv.len] at this
                      rw [List.getElem?_eq_getElem this] at hHm
                      cases hHm
                    | some kk =>
                      have := (hq1 kk hm' hHm).1
                      rw [hR] at this
                      cases this
                      exact hne rfl
              | some q =>
                obtain ⟨j, v0⟩ := q
                obtain ⟨k', u, q1, q2, q4, q5⟩ := sk.yes j v0 rfl
                obtain ⟨e0, g1, g2, g3⟩ := h2.get.2 j k' v0 q4
                have g1' : ents[j]? = some e0 := by simpa using g1
                have hfk := q1 w
                have hstay : (Instr.keyThatStays (((ents[j]?).map (·.key)).getD k) k).run P w = .ok k w := by
                  rw [g1']
                  simp only [Option.map_some, Option.getD_some, g2]
                  unfold Instr.keyThatStays
                  rw [if_pos q5]
                  rfl
                refine acts_skip (run _ ?_) ⟨c, ⟨s.F, (killIt id s.H).set id (.map (es.set j (k, v)))⟩, ?_, Ext.turn (o := .map (ents.modify j fun e => { e with key := k, val := a.eval z }) clock) c w (by rw [hR]; simp), hk⟩
                · simp only [Instr.mapUpdate, Sem.run_bind, run_underlying' hu, Result.andThen_ok, hgo]
                  rw [sk.chk]
                  simp only [Result.andThen_ok, hfk, Sem.run_bind, hstay]
                  exact run_setObj h1 (fun _ _ _ e => by cases e)
                · rw [hdst]
                  have hborn : (ents.modify j fun e => { e with key := k, val := a.eval z }).toList.map (·.born) = ents.toList.map (·.born) := by
                    apply List.ext_getElem?
                    intro i
                    simp only [List.getElem?_map, Array.getElem?_toList, Array.getElem?_modify]
                    by_cases hji : j = i
                    · rw [if_pos hji]; cases ents[i]? <;> rfl
                    · rw [if_neg hji]
                  refine Sim.turn kill hb hkid ⟨_, _, turn_self hlt, ?_, ?_, ?_⟩ fun i m l cu bm hi _ hm' _ => ?_
                  · refine MRel.of_get (by simp [h2.get.1]) fun i k2 x2 e2 hx2 he2 => ?_
                    rw [List.getElem?_set] at hx2
                    simp only [Array.getElem?_toList, Array.getElem?_modify] at he2
                    by_cases hji : j = i
                    · rw [if_pos hji] at hx2 he2
                      subst hji
                      rw [g1'] at he2
                      simp only [Option.map_some, Option.some.injEq] at he2
                      split at hx2
                      · cases hx2
                        subst he2
                        exact ⟨rfl, hzv⟩
                      · cases hx2
                    · rw [if_neg hji] at hx2 he2
                      obtain ⟨e3, r1, r2, r3⟩ := h2.get.2 i k2 x2 hx2
                      rw [Array.getElem?_toList, he2] at r1
                      cases r1
                      exact ⟨r2, r3⟩
                  · intro e he
                    have hb2 : e.born ∈ (ents.modify j fun e => { e with key := k, val := a.eval z }).toList.map (·.born) := List.mem_map.2 ⟨e, he, rfl⟩
                    rw [hborn] at hb2
                    obtain ⟨e', he', hbe⟩ := List.mem_map.1 hb2
                    rw [← hbe]
                    exact h3 e' he'
                  · rw [hborn]; exact h4
                  · rintro rfl
                    have hne := killIt_iter hi
                    have hq1 := h.inv.blk m bm
                    cases hHm : s.H[m]? with
                    | none =>
                      have := (List.getElem?_eq_some_iff.1 hm').1
                      rw [h.inv.len] at this
                      rw [List.getElem?_eq_getElem this] at hHm
                      cases hHm
                    | some kk =>
                      have := (hq1 kk hm' hHm).1
                      rw [hR] at this
                      cases this
                      exact hne rfl
        | _ => exact hk.elim
  · exact hk.elim

theorem iter_away {id b : Nat} {k : Bk} (h : Sim c N ⟨F, H⟩ a w) (hb : c.φ[id]? = some b) (hk : H[id]? = some k) : ∀ i m l cu bm, (killIt id H)[i]? = some (.iter m l cu) → i ≠ id → c.φ[m]? = some bm → (∃ ents cl, w.heap[bm]? = some (.map ents cl)) → bm ≠ b := by
  intro i m l cu bm hi _ hm _ e
  subst e
  have hne := killIt_iter hi
  have hlt := (List.getElem?_eq_some_iff.1 hm).1
  have hl : c.φ.length = H.length := h.inv.len
  rw [hl] at hlt
  have h1 := (h.inv.blk m bm _ hm (List.getElem?_eq_getElem hlt)).1
  have h2 := (h.inv.blk id bm _ hb hk).1
  rw [h1] at h2
  cases h2
  exact hne rfl

def aDelete (P : Program) (N : Nat) (dst : Option Tmp) (t : TypeId) (x y : Operand) (s : St) (K : St → Prop) : Prop := match P.underlying t, evalV s x, valOf s y with
  | some (.map kt _), some (.map id), some k => (match s.H[id]? with
    | some (.map es) => match seekK P kt k es with
      | some (some (i, _)) => putK N dst (.v (.tup [])) ⟨s.F, (killIt id s.H).set id (.map (es.eraseIdx i))⟩ K
      | some none => putK N dst (.v (.tup [])) ⟨s.F, (killIt id s.H).set id (.map es)⟩ K
      | none => False
    | _ => False)
  | _, _, _ => False
theorem aDelete_acts {o : Oper} {t : TypeId} {ts : Array TypeId} {x y : Operand} (ho : o.op = .call { callee := .builtin .delete, args := #[x, y], argTypes := ts }) (ht : ts[0]? = some t) (h : Sim c N s a w) (hk : aDelete P N o.dst t x y s K) : Acts P o a w (Post c w N K) := by
  unfold aDelete at hk
  split at hk
  · rename_i kt et id k hu hx hy
    · cases hH : s.H[id]? with
      | none => rw [hH] at hk; exact hk.elim
      | some blk =>
        rw [hH] at hk
        cases blk with
        | map es =>
          simp only at hk
          have hr := evalV_rel h hx
          generalize hxv : a.eval x = xv at hr
          cases hr with
          | map hb =>
            rename_i b
            obtain ⟨hR, _, ents, clock, h1, h2, h3, h4⟩ := h.inv.blk id b _ hb hH
            have hyv := valOf_eq h hy
            have hgo := run_getObj (P := P) (w := w) h1 (fun _ _ _ e => by cases e)
            have hlt := obj_lt h1
            have kill := Sim.killIt (F := s.F) (H := s.H) h id
            have hkid : (killIt id s.H)[id]? = some (.map es) := killIt_get hH
            have run : ∀ w', (Builtin.delete_ ts o.type #[.map (some b), k]).run P w = .ok (.tuple #[]) w' → (execOp a.eval o).run P w = .ok (.value (.tuple #[])) w' := fun w' hw => by
              unfold execOp
              simp only [ho, resolve, Sem.run_bind, Sem.run_pure, Result.andThen_ok, invoke, builtin, List.map_toArray, List.map_cons, List.map_nil, hxv, hyv, hw]
            have away := iter_away (F := s.F) (H := s.H) h hb hH
            cases hm : seekK P kt k es with
            | none => rw [hm] at hk; exact hk.elim
            | some r =>
              rw [hm] at hk
              have sk := seek_run (I := c.I) (φ := c.φ) hm h2
              cases r with
              | none =>
                have hfk := sk.no rfl w
                have s1 : Sim c N ⟨s.F, (killIt id s.H).set id (.map es)⟩ a (AM.turn w b (.map ents clock)) := Sim.turn kill hb hkid ⟨_, _, turn_self hlt, h2, h3, h4⟩ away
                refine acts_value (run _ ?_) (Post.step (Ext.turn (o := .map ents clock) c w (by rw [hR]; simp)) (putK_post s1 hk (v := .tuple #[]) fun _ _ => Rel.tup (vs := #[]) .nil))
                simp only [Builtin.delete_, ht, List.getElem?_toArray, List.getElem?_cons_zero, List.getElem?_cons_succ, Sem.run_bind, run_underlying' hu, Result.andThen_ok, hgo]
                rw [sk.chk]
                simp only [Result.andThen_ok, hfk, Sem.run_bind]
                rw [run_setObj h1 (fun _ _ _ e => by cases e)]
                rfl
              | some q =>
                obtain ⟨j, v0⟩ := q
                obtain ⟨k', u, q1, q2, q4, q5⟩ := sk.yes j v0 rfl
                have hfk := q1 w
                have s1 : Sim c N ⟨s.F, (killIt id s.H).set id (.map (es.eraseIdx j))⟩ a (AM.turn w b (.map (ents.eraseIdxIfInBounds j) clock)) := by
                  have hj : j < ents.size := by
                    have := (List.getElem?_eq_some_iff.1 q4).1
                    rw [h2.get.1] at this
                    simpa using this
                  have el : (ents.eraseIdxIfInBounds j).toList = ents.toList.eraseIdx j := by
                    unfold Array.eraseIdxIfInBounds
                    rw [dif_pos hj, Array.toList_eraseIdx]
                  refine Sim.turn kill hb hkid ⟨_, _, turn_self hlt, by rw [el]; exact h2.eraseIdx j, fun e he => ?_, ?_⟩ away
                  · rw [el] at he
                    exact h3 e ((List.eraseIdx_sublist _ _).subset he)
                  · rw [el]
                    exact List.Nodup.sublist (List.Sublist.map _ (List.eraseIdx_sublist _ _)) h4
                refine acts_value (run _ ?_) (Post.step (Ext.turn (o := .map (ents.eraseIdxIfInBounds j) clock) c w (by rw [hR]; simp)) (putK_post s1 hk (v := .tuple #[]) fun _ _ => Rel.tup (vs := #[]) .nil))
                simp only [Builtin.delete_, ht, List.getElem?_toArray, List.getElem?_cons_zero, List.getElem?_cons_succ, Sem.run_bind, run_underlying' hu, Result.andThen_ok, hgo]
                rw [sk.chk]
                simp only [Result.andThen_ok, hfk, Sem.run_bind]
                rw [run_setObj h1 (fun _ _ _ e => by cases e)]
                rfl
        | _ => exact hk.elim
  · exact hk.elim

def aLenMap (P : Program) (N : Nat) (dst : Option Tmp) (t : TypeId) (x : Operand) (s : St) (K : St → Prop) : Prop := match entsOf s x, P.underlying t with
  | some es, some (.map _ _) => putK N dst (.v (.sc (.int .i64 es.length))) s K
  | _, _ => False
theorem aLenMap_reads {o : Oper} {t : TypeId} {x : Operand} (ho : o.op = .call { callee := .builtin .len, args := #[x], argTypes := #[t] }) (h : Sim c N s a w) (hk : aLenMap P N o.dst t x s K) : Reads P o a w (Post c w N K) := by
  unfold aLenMap at hk
  split at hk
  · rename_i es kt et hx hu
    refine ⟨.int .i64 es.length, fun w' hw => ?_, putK_post h hk fun _ _ => Rel.sc _⟩
    have hw := hw (by rw [ho]; rfl)
    unfold execOp
    rcases entsOf_run h hx with ⟨hxv, rfl⟩ | ⟨id, b, ents, clock, _, hb, hH, hxv, h1, h2, _⟩
    · simp only [ho, resolve, Sem.run_bind, Sem.run_pure, Result.andThen_ok, invoke, builtin, List.map_toArray, List.map_cons, List.map_nil, hxv, Builtin.len_]
      simp [run_underlying' hu, goInt]
    · have hg : w'.heap[b]? = some (.map ents clock) := (hw b (obj_lt h1)).trans h1
      have hgo := run_getObj (P := P) (w := w') hg (fun _ _ _ e => by cases e)
      have hl := h2.get.1
      simp only [ho, resolve, Sem.run_bind, Sem.run_pure, Result.andThen_ok, invoke, builtin, List.map_toArray, List.map_cons, List.map_nil, hxv, Builtin.len_]
      simp only [List.getElem?_toArray, List.getElem?_cons_zero, Sem.run_bind, run_underlying' hu, Result.andThen_ok, hgo, Sem.run_pure, goInt]
      simp at hl
      rw [hl]
  · exact hk.elim

/-! ## A map is gone through -/
def aRange (P : Program) (N : Nat) (dst : Option Tmp) (t : TypeId) (x : Operand) (s : St) (K : St → Prop) : Prop := match evalV s x, P.underlying t, dst with
  | some (.map id), some (.map _ _), some d => match s.H[id]? with
    | some (.map es) => d < N ∧ K ⟨putF d (.v (.ptr s.H.length 0)) s.F, s.H ++ [.iter id es none]⟩
    | _ => False
  | _, _, _ => False
theorem aRange_acts {o : Oper} {t : TypeId} {x : Operand} (ho : o.op = .range t x) (h : Sim c N s a w) (hk : aRange P N o.dst t x s K) : Acts P o a w (Post c w N K) := by
  unfold aRange at hk
  split at hk
  · rename_i id kt et d hx hu hd
    cases hH : s.H[id]? with
    | none => rw [hH] at hk; exact hk.elim
    | some blk =>
      rw [hH] at hk
      cases blk with
      | map es =>
        obtain ⟨hlt, hk⟩ := hk
        have hr := evalV_rel h hx
        generalize hxv : a.eval x = xv at hr
        cases hr with
        | map hb =>
          rename_i b
          obtain ⟨hR, _, ents, clock, h1, h2, h3, h4⟩ := h.inv.blk id b _ hb hH
          have hgo := run_getObj (P := P) (w := w) h1 (fun _ _ _ e => by cases e)
          have hs : Sim (c.lay w.heap.size) N ⟨s.F, s.H ++ [.iter id es none]⟩ a (w.alloc (.mapIter (some b) clock #[] clock)) := by
            refine Sim.layObj (F := s.F) (H := s.H) h (fun _ e => by cases e) ⟨b, clock, #[], ents, lay_phi _ hb, heap_alloc_new w _, alloc_obj h1, h3, h4, ?_, fun k x e => by cases e⟩
            have : (ents.toList.filter fun e => !(#[] : Array Nat).contains e.born) = ents.toList := by simp
            rw [this]
            exact h2.mono (fun _ _ _ h => h) (fun _ _ h => lay_phi _ h)
          refine acts_value (v := .pointer (some ⟨w.heap.size, 0, none⟩)) (w' := w.alloc (.mapIter (some b) clock #[] clock)) ?_ ?_
          · unfold execOp
            simp only [ho, hxv, Instr.range, Sem.run_bind, run_underlying' hu, Result.andThen_ok, hgo, Sem.run_pure, newObj, Sem.run]
            rfl
          · rw [hd]
            exact ⟨_, _, hs.put hlt (x := .v (.ptr s.H.length 0)) trivial (Rel.ptr (lay_get h.inv _)), (Ext.lay c w _).trans (Ext.free _ _ _), hk⟩
      | _ => exact hk.elim
  · exact hk.elim
def aNext (N : Nat) (dst : Option Tmp) (x : Operand) (isS : Bool) (s : St) (K : St → Prop) : Prop := isS = false ∧ match evalV s x with
  | some (.ptr id 0) => match s.H[id]? with
    | some (.iter m left cu) => (left = [] → putK N dst (.v (.tup [.sc (.bool false)])) s K) ∧
        ∀ i k v, left[i]? = some (k, v) → putK N dst (.v (.tup [.sc (.bool true), .sc k, v])) ⟨s.F, s.H.set id (.iter m (left.eraseIdx i) (some (k, v)))⟩ K
    | _ => False
  | _ => False
def aEntry (N : Nat) (dst : Option Tmp) (x : Operand) (s : St) (K : St → Prop) : Prop := match evalV s x with
  | some (.ptr id 0) => match s.H[id]? with
    | some (.iter _ _ (some (k, v))) => putK N dst (.v (.tup [.sc k, v])) s K
    | _ => False
  | _ => False

theorem filter_erase {l : List MapEntry} (hn : (l.map (·.born)).Nodup) : ∀ {i : Nat} {e : MapEntry}, l[i]? = some e → (l.filter fun x => !(x.born == e.born)) = l.eraseIdx i := by
  induction l with
  | nil => intro i e h; simp at h
  | cons a l ih =>
    intro i e h
    simp only [List.map_cons, List.nodup_cons] at hn
    cases i with
    | zero =>
      simp only [List.getElem?_cons_zero, Option.some.injEq] at h
      subst h
      simp only [List.filter_cons, beq_self_eq_true, Bool.not_true, Bool.false_eq_true, if_false, List.eraseIdx_cons_zero]
      refine List.filter_eq_self.2 fun x hx => ?_
      have : x.born ≠ a.born := fun e => hn.1 (e ▸ List.mem_map.2 ⟨x, hx, rfl⟩)
      simpa using this
    | succ i =>
      simp only [List.getElem?_cons_succ] at h
      have hne : a.born ≠ e.born := fun e' => hn.1 (e' ▸ List.mem_map.2 ⟨e, List.mem_of_getElem? h, rfl⟩)
      rw [List.filter_cons, if_pos (by simpa using hne), List.eraseIdx_cons_succ, ih hn.2 h]

theorem aNext_acts {o : Oper} {x : Operand} {isS : Bool} (ho : o.op = .next x isS) (h : Sim c N s a w) (hk : aNext N o.dst x isS s K) : Acts P o a w (Post c w N K) := by
  obtain ⟨rfl, hk⟩ := hk
  split at hk
  · rename_i id hx
    cases hH : s.H[id]? with
    | none => rw [hH] at hk; exact hk.elim
    | some blk =>
      rw [hH] at hk
      cases blk with
      | iter m left cu =>
        obtain ⟨k1, k2⟩ := hk
        have hr := evalV_rel h hx
        generalize hxv : a.eval x = xv at hr
        cases hr with
        | ptr hb =>
          rename_i b
          obtain ⟨hR, _, bm, since, seen, ents, h1, h2, h3, h4, h5, h6, h7⟩ := h.inv.blk id b _ hb hH
          have hlt := obj_lt h2
          have g1 := run_getObj (P := P) (w := w) h2 (fun _ _ _ e => by cases e)
          have g2 := run_getObj (P := P) (w := w) h3 (fun _ _ _ e => by cases e)
          have hchk : (!seen.isEmpty && !ents.isEmpty && ents.all (·.born ≥ since)) = false := by
            cases he : ents.isEmpty with
            | true => simp
            | false =>
              have hne : ents.toList ≠ [] := by
                intro e
                have : ents = #[] := Array.toList_inj.1 e
                subst this
                simp at he
              obtain ⟨e0, he0⟩ := List.exists_mem_of_ne_nil _ hne
              have h4' := h4 e0 he0
              have : ents.all (·.born ≥ since) = false := by
                rw [Bool.eq_false_iff]
                intro hall
                have := Array.all_eq_true_iff_forall_mem.1 hall e0 (by simpa using he0)
                simp at this
                omega
              rw [this]; simp
          have hold : (ents.filter fun e => !seen.contains e.born).filter (·.born < since) = ents.filter fun e => !seen.contains e.born := by
            apply Array.filter_eq_self.2
            intro e he
            simpa using h4 e (by simpa using (Array.mem_filter.1 he).1)
          have hnew : (ents.filter fun e => !seen.contains e.born).filter (·.born ≥ since) = #[] := by
            apply Array.filter_eq_empty_iff.2
            intro e he
            have := h4 e (by simpa using (Array.mem_filter.1 he).1)
            simp; omega
          have hL : (ents.filter fun e => !seen.contains e.born).toList = ents.toList.filter fun e => !seen.contains e.born := by simp
          generalize hLL : (ents.filter fun e => !seen.contains e.born) = L at hold hnew hL
          rw [← hL] at h6
          cases hemp : L.isEmpty with
          | true =>
            have hLe : L = #[] := by simpa using hemp
            subst hLe
            have hl0 : left = [] := by
              have := h6.get.1
              simpa using this
            refine acts_value (v := .tuple #[.bool false]) (w' := w) ?_ (putK_post h (k1 hl0) fun _ _ => Rel.tup (vs := #[.bool false]) (.cons (.sc _) .nil))
            unfold execOp
            simp only [ho, hxv, Instr.next, Sem.run_bind, g1, g2, Result.andThen_ok, hchk, Bool.false_eq_true, if_false, Sem.run_pure, hLL, hold, hnew, hemp, if_true]
            simp [choose, Sem.run, Question.forced]
          | false =>
            have hLs : 0 < L.size := by
              rcases Nat.eq_zero_or_pos L.size with h0 | h0
              · have : L = #[] := Array.eq_empty_of_size_eq_zero h0
                subst this
                simp at hemp
              · exact h0
            have hch : ∃ i w1, i < L.size ∧ (choose (.mapNext (L.map some).size)).run P w = .ok i w1 ∧ (w1 = w ∨ w1 = w.drew) := by
              unfold choose
              simp only [Sem.run, Array.size_map]
              by_cases hf : (Question.mapNext L.size).forced = true
              · rw [if_pos hf]
                exact ⟨0, w, hLs, rfl, .inl rfl⟩
              · rw [if_neg hf]
                exact ⟨_, _, Nat.mod_lt _ hLs, rfl, .inr rfl⟩
            obtain ⟨i, w1, hi, hrun, hw1⟩ := hch
            have hLi : (L.map some)[i]? = some (some L[i]) := by simp [hi]
            obtain ⟨hlen, hget⟩ := h6.get
            have hil : i < left.length := by rw [hlen]; simpa using hi
            obtain ⟨k, v, hkv⟩ : ∃ k v, left[i]? = some (k, v) := ⟨left[i].1, left[i].2, by rw [List.getElem?_eq_getElem hil]⟩
            obtain ⟨e, e1, e2, e3⟩ := hget i k v hkv
            have e1' : L[i] = e := by
              rw [Array.getElem?_toList, Array.getElem?_eq_getElem hi] at e1
              simpa using e1
            have hmemL : e ∈ L.toList := List.mem_of_getElem? e1
            have hmem : e ∈ ents.toList := by
              rw [hL] at hmemL
              exact (List.mem_filter.1 hmemL).1
            have sw : Sim c N s a w1 := hw1.elim (fun e => e ▸ h) (fun e => e ▸ h.drew)
            have xw : Ext c w c w1 := hw1.elim (fun e => e ▸ Ext.refl c w) (fun e => e ▸ Ext.drew c w)
            have hw2 : w1.heap = w.heap := by rcases hw1 with rfl | rfl <;> rfl
            have h2' : w1.heap[b]? = some (.mapIter (some bm) since seen since) := by rw [hw2]; exact h2
            have h3' : w1.heap[bm]? = some (.map ents since) := by rw [hw2]; exact h3
            have hne : bm ≠ b := by rintro rfl; rw [h2] at h3; cases h3
            have s1 : Sim c N ⟨s.F, s.H.set id (.iter m (left.eraseIdx i) (some (k, v)))⟩ a (AM.turn w1 b (.mapIter (some bm) since (seen.push e.born) since)) := by
              refine Sim.turn (F := s.F) (H := s.H) sw hb hH ⟨bm, since, seen.push e.born, ents, h1, turn_self (obj_lt h2'), (turn_other hne).trans h3', h4, h5, ?_, fun k' x' hc => ?_⟩ fun i' m' l' cu' bm' _ _ _ hmap e' => ?_
              · have hf : (ents.toList.filter fun x => !(seen.push e.born).contains x.born) = L.toList.eraseIdx i := by
                  rw [← filter_erase (l := L.toList) (by rw [hL]; exact List.Nodup.sublist (List.Sublist.map _ List.filter_sublist) h5) e1, hL, List.filter_filter]
                  refine List.filter_congr fun x _ => ?_
                  rw [Array.contains_push, Bool.not_or, Bool.and_comm]
                rw [hf]
                exact h6.eraseIdx i
              · cases hc
                exact ⟨e, by simp, hmem, e2, e3⟩
              · subst e'
                obtain ⟨_, _, hq⟩ := hmap
                rw [h2'] at hq
                cases hq
            have p1 := putK_post (v := .tuple #[.bool true, e.key, e.val]) s1 (k2 i k v hkv) fun _ _ => Rel.tup (vs := #[.bool true, e.key, e.val]) (.cons (.sc _) (.cons (by rw [e2]; exact .sc _) (.cons e3 .nil)))
            refine acts_value (v := .tuple #[.bool true, e.key, e.val]) (w' := AM.turn w1 b (.mapIter (some bm) since (seen.push e.born) since)) ?_ (Post.step (xw.trans (Ext.turn c w1 (by rw [hR]; simp))) p1)
            unfold execOp
            simp only [ho, hxv, Instr.next, Sem.run_bind, g1, g2, Result.andThen_ok, hchk, Bool.false_eq_true, if_false, Sem.run_pure, hLL, hold, hnew, hemp, Array.empty_append, Array.append_empty, hrun, hLi, e1']
            rw [run_setObj h2' (fun _ _ _ e => by cases e)]
            rfl
      | _ => exact hk.elim
  · exact hk.elim
theorem aEntry_acts {o : Oper} {x : Operand} (ho : o.op = .entry x) (h : Sim c N s a w) (hk : aEntry N o.dst x s K) : Acts P o a w (Post c w N K) := by
  unfold aEntry at hk
  split at hk
  · rename_i id hx
    split at hk
    · rename_i m left k v hH
      have hr := evalV_rel h hx
      generalize hxv : a.eval x = xv at hr
      cases hr with
      | ptr hb =>
        rename_i b
        obtain ⟨hR, _, bm, since, seen, ents, h1, h2, h3, h4, h5, h6, h7⟩ := h.inv.blk id b _ hb hH
        obtain ⟨e, q1, q2, q3, q4⟩ := h7 k v rfl
        have g1 := run_getObj (P := P) (w := w) h2 (fun _ _ _ e => by cases e)
        have g2 := run_getObj (P := P) (w := w) h3 (fun _ _ _ e => by cases e)
        have hfind : ents.find? (fun x => x.born == e.born) = some e := by
          rw [← Array.find?_toList]
          have : ∀ l : List MapEntry, (l.map (·.born)).Nodup → e ∈ l → l.find? (fun x => x.born == e.born) = some e := by
            intro l
            induction l with
            | nil => intro _ h; cases h
            | cons a l ih =>
              intro hn hm
              simp only [List.map_cons, List.nodup_cons] at hn
              rcases List.mem_cons.1 hm with rfl | hm
              · simp
              · have hne : a.born ≠ e.born := fun e' => hn.1 (e' ▸ List.mem_map.2 ⟨e, hm, rfl⟩)
                rw [List.find?_cons_of_neg (by simpa using hne)]
                exact ih hn.2 hm
          exact this _ h5 q2
        refine acts_value (v := .tuple #[e.key, e.val]) (w' := w) ?_ (putK_post h hk fun _ _ => Rel.tup (vs := #[e.key, e.val]) (.cons (by rw [q3]; exact .sc _) (.cons q4 .nil)))
        unfold execOp
        simp only [ho, hxv, Instr.entry, Sem.run_bind, g1, Result.andThen_ok, q1, g2, bne_self_eq_false, Bool.false_eq_true, if_false, Sem.run_pure, hfind]
    · exact hk.elim
  · exact hk.elim
end
end AM
end Go.Proofs.Ytmjnffjacgjfmaa
