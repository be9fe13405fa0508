/- An abstract memory: values without addresses, what they say of a world, and what a call may turn. Plain lemmas, over any program. -/
import Derived.Test.YtoooldijnilpaaaBase
namespace Go.Proofs.Ytoooldijnilpaaa
set_option linter.all false
open Go.RowKit
namespace AM

/-- A value without addresses of the heap: what is read through it stands in it (rd, sl), or lies in a block that has a number (ptr, map). -/
inductive V where
  | sc (v : Value)
  | agg (cs : List V)
  | tup (cs : List V)
  | nil
  | sl (n sz : Nat) (cs : List V)
  | rd (cs : List V)
  | ptr (id off : Nat)
  | map (id : Nat)
  | fn (f : Fn) (first cap : List V)
  | iface (t : TypeId) (v : V)
  deriving Inhabited

/-- Where the one owner of a row stands: a slot of the frame, or a cell of a numbered block. -/
inductive Root where
  | slot (s : Nat)
  | cell (id off : Nat)
  deriving DecidableEq, Inhabited

/-- What a slot or a cell holds: a value; a row of the call's own; a way into such a row; such a row's header. -/
inductive SV where
  | v (x : V)
  | own (pr : Bool) (e n sz : Nat) (cs : List V)
  | pth (r : Root) (off : Nat)
  | lnk (r : Root) (n : Nat)
  | any
  deriving Inhabited

/-- What a block is for. -/
inductive Role where
  | out
  | abs (id : Nat)
  | own (r : Root)
  deriving DecidableEq, Inhabited

/-- Which cells never turn, where the numbered blocks lie, and what each block is for. -/
structure Cx where
  I : Nat → Nat → Option Value
  φ : List Nat
  R : Nat → Role

mutual
inductive Rel (I : Nat → Nat → Option Value) (φ : List Nat) : V → Value → Prop
  | sc (v : Value) : Rel I φ (.sc v) v
  | agg {cs : List V} {vs : Array Value} : RelL I φ cs vs.toList → Rel I φ (.agg cs) (.agg vs)
  | tup {cs : List V} {vs : Array Value} : RelL I φ cs vs.toList → Rel I φ (.tup cs) (.tuple vs)
  | nil : Rel I φ .nil (.slice none 0 0)
  | sl {sz : Nat} {cs : List V} {vs : List Value} {b o len cap : Nat} : RelL I φ cs vs → (∀ j u, vs[j]? = some u → I b (o + j) = some u) → cs.length = len * sz → len ≤ cap → cap ≤ maxLen → (∀ u ∈ vs, u.oneCell' = true) →
      Rel I φ (.sl len sz cs) (.slice (some ⟨b, o, none⟩) len cap)
  | sl0 {sz : Nat} {A : Option Addr} : Rel I φ (.sl 0 sz []) (.slice A 0 0)
  | rd {cs : List V} {vs : List Value} {b o : Nat} : RelL I φ cs vs → (∀ j u, vs[j]? = some u → I b (o + j) = some u) → (∀ u ∈ vs, u.oneCell' = true) → Rel I φ (.rd cs) (.pointer (some ⟨b, o, none⟩))
  | ptr {id off b : Nat} : φ[id]? = some b → Rel I φ (.ptr id off) (.pointer (some ⟨b, off, none⟩))
  | map {id b : Nat} : φ[id]? = some b → Rel I φ (.map id) (.map (some b))
  | fn {f : Fn} {first cap : List V} {first' cap' : Array Value} : RelL I φ first first'.toList → RelL I φ cap cap'.toList → Rel I φ (.fn f first cap) (.func f first' cap')
  | iface {t : TypeId} {x : V} {v : Value} : Rel I φ x v → Rel I φ (.iface t x) (.iface t v)
inductive RelL (I : Nat → Nat → Option Value) (φ : List Nat) : List V → List Value → Prop
  | nil : RelL I φ [] []
  | cons {x : V} {v : Value} {xs : List V} {vs : List Value} : Rel I φ x v → RelL I φ xs vs → RelL I φ (x :: xs) (v :: vs)
end

section
variable {I I' : Nat → Nat → Option Value} {φ φ' : List Nat}
mutual
theorem Rel.mono (hI : ∀ b o v, I b o = some v → I' b o = some v) (hφ : ∀ id b : Nat, φ[id]? = some b → φ'[id]? = some b) : ∀ {x : V} {v : Value}, Rel I φ x v → Rel I' φ' x v
  | _, _, .sc v => .sc v
  | _, _, .agg h => .agg (RelL.mono hI hφ h)
  | _, _, .tup h => .tup (RelL.mono hI hφ h)
  | _, _, .nil => .nil
  | _, _, .sl h h1 h2 h3 h4 h5 => .sl (RelL.mono hI hφ h) (fun j u hu => hI _ _ _ (h1 j u hu)) h2 h3 h4 h5
  | _, _, .sl0 => .sl0
  | _, _, .rd h h1 h5 => .rd (RelL.mono hI hφ h) (fun j u hu => hI _ _ _ (h1 j u hu)) h5
  | _, _, .ptr h => .ptr (hφ _ _ h)
  | _, _, .map h => .map (hφ _ _ h)
  | _, _, .fn h h1 => .fn (RelL.mono hI hφ h) (RelL.mono hI hφ h1)
  | _, _, .iface h => .iface (Rel.mono hI hφ h)
theorem RelL.mono (hI : ∀ b o v, I b o = some v → I' b o = some v) (hφ : ∀ id b : Nat, φ[id]? = some b → φ'[id]? = some b) : ∀ {x : List V} {v : List Value}, RelL I φ x v → RelL I' φ' x v
  | _, _, .nil => .nil
  | _, _, .cons h h1 => .cons (Rel.mono hI hφ h) (RelL.mono hI hφ h1)
end
theorem RelL.len {xs : List V} {vs : List Value} (h : RelL I φ xs vs) : xs.length = vs.length := by
  induction xs generalizing vs with
  | nil => cases h; rfl
  | cons x xs ih => cases h with | cons h h1 => simp [ih h1]
theorem RelL.get {xs : List V} {vs : List Value} (h : RelL I φ xs vs) {j : Nat} {x : V} (hx : xs[j]? = some x) : ∃ v, vs[j]? = some v ∧ Rel I φ x v := by
  induction xs generalizing vs j with
  | nil => simp at hx
  | cons y xs ih =>
    cases h with
    | cons h h1 =>
      cases j with
      | zero => simp at hx; subst hx; exact ⟨_, rfl, h⟩
      | succ j => simp at hx; simpa using ih h1 hx
theorem RelL.get' {xs : List V} {vs : List Value} (h : RelL I φ xs vs) {j : Nat} {v : Value} (hv : vs[j]? = some v) : ∃ x, xs[j]? = some x ∧ Rel I φ x v := by
  induction xs generalizing vs j with
  | nil => cases h; simp at hv
  | cons y xs ih =>
    cases h with
    | cons h h1 =>
      cases j with
      | zero => simp at hv; subst hv; exact ⟨_, rfl, h⟩
      | succ j => simp at hv; simpa using ih h1 hv
theorem RelL.of_get {xs : List V} {vs : List Value} (hl : xs.length = vs.length) (h : ∀ (j : Nat) (x : V) (v : Value), xs[j]? = some x → vs[j]? = some v → Rel I φ x v) : RelL I φ xs vs := by
  induction xs generalizing vs with
  | nil => cases vs with | nil => exact .nil | cons _ _ => simp at hl
  | cons x xs ih =>
    cases vs with
    | nil => simp at hl
    | cons v vs => exact .cons (h 0 x v rfl rfl) (ih (by simpa using hl) fun j x v hx hv => h (j + 1) x v (by simpa using hx) (by simpa using hv))
theorem RelL.append {xs ys : List V} {vs us : List Value} (h : RelL I φ xs vs) (k : RelL I φ ys us) : RelL I φ (xs ++ ys) (vs ++ us) := by
  induction xs generalizing vs with
  | nil => cases h; exact k
  | cons x xs ih => cases h with | cons h h1 => exact .cons h (ih h1)
theorem RelL.take {xs : List V} {vs : List Value} (h : RelL I φ xs vs) (n : Nat) : RelL I φ (xs.take n) (vs.take n) :=
  .of_get (by simp [h.len]) fun j x v hx hv => by
    rw [List.getElem?_take] at hx hv
    by_cases hj : j < n
    · rw [if_pos hj] at hx hv
      obtain ⟨u, hu, hr⟩ := h.get hx
      rw [hv] at hu; cases hu; exact hr
    · rw [if_neg hj] at hx; cases hx
theorem RelL.drop {xs : List V} {vs : List Value} (h : RelL I φ xs vs) (n : Nat) : RelL I φ (xs.drop n) (vs.drop n) :=
  .of_get (by simp [h.len]) fun j x v hx hv => by
    rw [List.getElem?_drop] at hx hv
    obtain ⟨u, hu, hr⟩ := h.get hx
    rw [hv] at hu; cases hu; exact hr
theorem RelL.set {xs : List V} {vs : List Value} (h : RelL I φ xs vs) (n : Nat) {x : V} {v : Value} (hx : Rel I φ x v) : RelL I φ (xs.set n x) (vs.set n v) :=
  .of_get (by simp [h.len]) fun j y u hy hu => by
    rw [List.getElem?_set] at hy hu
    by_cases hj : n = j
    · rw [if_pos hj] at hy hu
      split at hy
      · split at hu
        · cases hy; cases hu; exact hx
        · cases hu
      · cases hy
    · rw [if_neg hj] at hy hu
      obtain ⟨u', hu', hr⟩ := h.get hy
      rw [hu] at hu'; cases hu'; exact hr
theorem RelL.unappend {xs ys : List V} {vs : List Value} (h : RelL I φ (xs ++ ys) vs) : ∃ v1 v2, vs = v1 ++ v2 ∧ RelL I φ xs v1 ∧ RelL I φ ys v2 := by
  refine ⟨vs.take xs.length, vs.drop xs.length, (List.take_append_drop _ _).symm, ?_, ?_⟩
  · have := h.take xs.length
    rwa [List.take_left] at this
  · have := h.drop xs.length
    rwa [List.drop_left] at this
end

/-! ## Values that stand whole in themselves -/
mutual
def V.exact : V → Option Value
  | .sc v => some v
  | .agg cs => match V.exactL cs with
    | some l => some (.agg l.toArray)
    | none => none
  | .tup cs => match V.exactL cs with
    | some l => some (.tuple l.toArray)
    | none => none
  | .nil => some (.slice none 0 0)
  | .iface t x => match x.exact with
    | some v => some (.iface t v)
    | none => none
  | .fn f first cap => match V.exactL first, V.exactL cap with
    | some a, some b => some (.func f a.toArray b.toArray)
    | _, _ => none
  | _ => none
def V.exactL : List V → Option (List Value)
  | [] => some []
  | x :: xs => match x.exact, V.exactL xs with
    | some v, some l => some (v :: l)
    | _, _ => none
end
section
variable {I : Nat → Nat → Option Value} {φ : List Nat}
mutual
theorem Rel.exact : ∀ {x : V} {v u : Value}, Rel I φ x v → x.exact = some u → v = u
  | _, _, _, .sc v, h => by simpa [V.exact] using h
  | _, _, _, .agg (cs := cs) hl, h => by
    unfold V.exact at h
    cases hc : V.exactL cs with
    | none => rw [hc] at h; cases h
    | some l =>
      rw [hc] at h
      have := RelL.exact hl hc
      simp at h
      rw [← h, ← this]
  | _, _, _, .tup (cs := cs) hl, h => by
    unfold V.exact at h
    cases hc : V.exactL cs with
    | none => rw [hc] at h; cases h
    | some l =>
      rw [hc] at h
      have := RelL.exact hl hc
      simp at h
      rw [← h, ← this]
  | _, _, _, .nil, h => by simpa [V.exact] using h
  | _, _, _, .sl .., h => by simp [V.exact] at h
  | _, _, _, .sl0 .., h => by simp [V.exact] at h
  | _, _, _, .rd .., h => by simp [V.exact] at h
  | _, _, _, .ptr .., h => by simp [V.exact] at h
  | _, _, _, .map .., h => by simp [V.exact] at h
  | _, _, _, .fn (first := fs) (cap := cs) h1 h2, h => by
    unfold V.exact at h
    cases hc : V.exactL fs with
    | none => rw [hc] at h; cases h
    | some l =>
      cases hd : V.exactL cs with
      | none => rw [hc, hd] at h; cases h
      | some k =>
        rw [hc, hd] at h
        have e1 := RelL.exact h1 hc
        have e2 := RelL.exact h2 hd
        simp at h
        rw [← h, ← e1, ← e2]
  | _, _, _, .iface (x := x) h1, h => by
    unfold V.exact at h
    cases hc : x.exact with
    | none => rw [hc] at h; cases h
    | some l =>
      rw [hc] at h
      have := Rel.exact h1 hc
      simp at h
      rw [← h, this]
theorem RelL.exact : ∀ {xs : List V} {vs us : List Value}, RelL I φ xs vs → V.exactL xs = some us → vs = us
  | _, _, _, .nil, h => by simpa [V.exactL] using h
  | _, _, _, .cons (x := x) (xs := xs) h1 h2, h => by
    unfold V.exactL at h
    cases hc : x.exact with
    | none => rw [hc] at h; cases h
    | some v =>
      cases hd : V.exactL xs with
      | none => rw [hc, hd] at h; cases h
      | some k =>
        rw [hc, hd] at h
        simp at h
        rw [← h, Rel.exact h1 hc, RelL.exact h2 hd]
end
end

def V.ofCell : Value → V
  | .slice none 0 0 => .nil
  | v => .sc v
def V.ofPart : Value → V
  | .agg cs => .agg (cs.toList.map V.ofCell)
  | v => V.ofCell v
def V.ofValue : Value → V
  | .tuple vs => .tup (vs.toList.map V.ofPart)
  | v => V.ofPart v
section
variable {I : Nat → Nat → Option Value} {φ : List Nat}
theorem ofCell_rel (v : Value) : Rel I φ (V.ofCell v) v := by
  unfold V.ofCell
  split
  · exact .nil
  · exact .sc _
theorem relL_map {f : Value → V} (hf : ∀ v, Rel I φ (f v) v) : ∀ vs : List Value, RelL I φ (vs.map f) vs
  | [] => .nil
  | v :: vs => .cons (hf v) (relL_map hf vs)
theorem ofPart_rel (v : Value) : Rel I φ (V.ofPart v) v := by
  unfold V.ofPart
  split
  · exact .agg (relL_map ofCell_rel _)
  · exact ofCell_rel _
theorem ofValue_rel (v : Value) : Rel I φ (V.ofValue v) v := by
  unfold V.ofValue
  split
  · exact .tup (relL_map ofPart_rel _)
  · exact ofPart_rel _
end

/-- The cells of a value. -/
def V.cells : V → List V
  | .agg cs => cs
  | v => [v]

/-! ## Blocks, frames, states -/
inductive Bk where
  | cells (cs : List SV)
  | map (es : List (Value × V))
  | iter (m : Nat) (left : List (Value × V)) (cur : Option (Value × V))
  | dead
  deriving Inhabited

abbrev Fr := List (Nat × SV)
structure St where
  F : Fr
  H : List Bk

def SV.refers (r : Root) : SV → Bool
  | .pth r' _ => r' == r
  | .lnk r' _ => r' == r
  | _ => false

/-- A cell of a block holds no way and no header. -/
def SV.flat : SV → Bool
  | .v _ | .own .. | .any => true
  | _ => false

def SRel (c : Cx) (w : World) (r : Root) : SV → Value → Prop
  | .v x, u => Rel c.I c.φ x u
  | .own pr e n sz cs, u => 0 < sz ∧ ∃ vs, RelL c.I c.φ cs vs ∧ w.ownsRow 0 e sz u n vs ∧ (∀ x ∈ vs, x.oneCell' = true) ∧ ∀ b, u.ownBlock = some b → c.R b = .own r ∧ ∀ o, c.I b o = if pr then none else vs[o]?
  | .pth r' off, u => ∃ b, u = .pointer (some ⟨b, off, none⟩) ∧ c.R b = .own r'
  | .lnk r' n, u => (u = .slice none 0 0 ∧ n = 0) ∨ ∃ b cap, u = .slice (some ⟨b, 0, none⟩) n cap ∧ c.R b = .own r'
  | .any, _ => True

/-- The entries of a map. -/
inductive MRel (I : Nat → Nat → Option Value) (φ : List Nat) : List (Value × V) → List MapEntry → Prop
  | nil : MRel I φ [] []
  | cons {k : Value} {x : V} {e : MapEntry} {es : List (Value × V)} {l : List MapEntry} : e.key = k → Rel I φ x e.val → MRel I φ es l → MRel I φ ((k, x) :: es) (e :: l)

def BRel (c : Cx) (w : World) (id b : Nat) : Bk → Prop
  | .cells cs => ∃ arr e, w.heap[b]? = some (.cells arr e (0, 0)) ∧ arr.size = cs.length ∧ (∀ v ∈ arr.toList, v.oneCell' = true) ∧ ∀ j x v, cs[j]? = some x → arr[j]? = some v → x.flat = true ∧ SRel c w (.cell id j) x v
  | .map es => ∃ ents clock, w.heap[b]? = some (.map ents clock) ∧ MRel c.I c.φ es ents.toList ∧ (∀ e ∈ ents.toList, e.born < clock) ∧ (ents.toList.map (·.born)).Nodup
  | .iter m left cur => ∃ bm since seen ents, c.φ[m]? = some bm ∧ w.heap[b]? = some (.mapIter (some bm) since seen since) ∧ w.heap[bm]? = some (.map ents since) ∧ (∀ e ∈ ents.toList, e.born < since) ∧ (ents.toList.map (·.born)).Nodup ∧
      MRel c.I c.φ left (ents.toList.filter fun e => !seen.contains e.born) ∧ (∀ k x, cur = some (k, x) → ∃ e, seen.back? = some e.born ∧ e ∈ ents.toList ∧ e.key = k ∧ Rel c.I c.φ x e.val)
  | .dead => True

structure Inv (c : Cx) (H : List Bk) (w : World) : Prop where
  imm : ∀ b o v, c.I b o = some v → w.cell? ⟨b, o, none⟩ = some v
  len : c.φ.length = H.length
  lt : ∀ b, c.R b ≠ .out → b < w.heap.size
  uniq : ∀ b b' r, c.R b = .own r → c.R b' = .own r → b = b'
  blk : ∀ (id b : Nat) (k : Bk), c.φ[id]? = some b → H[id]? = some k → c.R b = .abs id ∧ (∀ o, c.I b o = none) ∧ BRel c w id b k

structure Sim (c : Cx) (N : Nat) (s : St) (a : Act) (w : World) : Prop where
  inv : Inv c s.H w
  size : a.tmps.size = N
  defers : a.defers = []
  fr : ∀ t x, (t, x) ∈ s.F → ∃ v, a.tmps[t]? = some v ∧ SRel c w (.slot t) x v

/-- What a stretch of a call may turn: nothing that is not its own. -/
structure Ext (c : Cx) (w : World) (c' : Cx) (w' : World) : Prop where
  os : w'.os = w.os
  tape : w'.tape = w.tape
  output : w'.output = w.output
  size : w.heap.size ≤ w'.heap.size
  out : ∀ b, b < w.heap.size → c.R b = .out → w'.heap[b]? = w.heap[b]? ∧ c'.R b = .out ∧ ∀ o, c'.I b o = c.I b o
  imm : ∀ b o v, c.I b o = some v → c'.I b o = some v
  phi : ∀ id b : Nat, c.φ[id]? = some b → c'.φ[id]? = some b

section
variable {c c' c'' : Cx} {w w' w'' : World} {H : List Bk}
theorem Ext.refl (c : Cx) (w : World) : Ext c w c w := ⟨rfl, rfl, rfl, Nat.le_refl _, fun _ _ h => ⟨rfl, h, fun _ => rfl⟩, fun _ _ _ h => h, fun _ _ h => h⟩
theorem Ext.trans (h : Ext c w c' w') (k : Ext c' w' c'' w'') : Ext c w c'' w'' :=
  ⟨k.os.trans h.os, k.tape.trans h.tape, k.output.trans h.output, Nat.le_trans h.size k.size,
    fun b hb hr => by
      obtain ⟨h1, h2, h3⟩ := h.out b hb hr
      obtain ⟨k1, k2, k3⟩ := k.out b (Nat.lt_of_lt_of_le hb h.size) h2
      exact ⟨k1.trans h1, k2, fun o => (k3 o).trans (h3 o)⟩,
    fun b o v hv => k.imm b o v (h.imm b o v hv), fun id b hb => k.phi id b (h.phi id b hb)⟩

/-- What holds of a slot goes on to hold. -/
theorem SRel.mono (hI : ∀ b o v, c.I b o = some v → c'.I b o = some v) (hφ : ∀ id b : Nat, c.φ[id]? = some b → c'.φ[id]? = some b) {r : Root} {x : SV} {v : Value}
    (ho : ∀ b r', (r' = r ∨ x.refers r' = true) → c.R b = .own r' → c'.R b = .own r' ∧ w'.heap[b]? = w.heap[b]? ∧ ∀ o, c'.I b o = c.I b o) (h : SRel c w r x v) : SRel c' w' r x v := by
  cases x with
  | v x => exact Rel.mono hI hφ h
  | own pr e n sz cs =>
    obtain ⟨h0, vs, h1, h2, h4, h3⟩ := h
    refine ⟨h0, vs, RelL.mono hI hφ h1, own_keep h2 fun g hg => (ho g r (.inl rfl) (h3 g hg).1).2.1, h4, fun b hb => ?_⟩
    obtain ⟨k1, k2⟩ := h3 b hb
    obtain ⟨k3, k4, k5⟩ := ho b r (.inl rfl) k1
    exact ⟨k3, fun o => (k5 o).trans (k2 o)⟩
  | pth r' off =>
    obtain ⟨b, rfl, h1⟩ := h
    exact ⟨b, rfl, (ho b r' (.inr (by simp [SV.refers])) h1).1⟩
  | lnk r' n =>
    rcases h with h | ⟨b, cap, rfl, h1⟩
    · exact .inl h
    · exact .inr ⟨b, cap, rfl, (ho b r' (.inr (by simp [SV.refers])) h1).1⟩
  | any => trivial
end

theorem MRel.mono {I I' : Nat → Nat → Option Value} {φ φ' : List Nat} (hI : ∀ b o v, I b o = some v → I' b o = some v) (hφ : ∀ id b : Nat, φ[id]? = some b → φ'[id]? = some b) {es : List (Value × V)} {l : List MapEntry} (h : MRel I φ es l) : MRel I' φ' es l := by
  induction h with
  | nil => exact .nil
  | cons h1 h2 _ ih => exact .cons h1 (Rel.mono hI hφ h2) ih
/-- A map or a walk over one goes on as it was. -/
theorem BRel.stay {c c' : Cx} {w w' : World} {id id' b : Nat} {k : Bk} (hk : ∀ cs, k ≠ .cells cs) (h : BRel c w id b k) (hI : ∀ b o v, c.I b o = some v → c'.I b o = some v) (hφ : ∀ id b : Nat, c.φ[id]? = some b → c'.φ[id]? = some b)
    (hM : ∀ (b' : Nat) (o : Obj), w.heap[b']? = some o → (∀ arr e f, o ≠ Obj.cells arr e f) → w'.heap[b']? = some o) : BRel c' w' id' b k := by
  cases k with
  | cells cs => exact absurd rfl (hk cs)
  | map es =>
    obtain ⟨ents, clock, h1, h2, h3, h4⟩ := h
    exact ⟨ents, clock, hM _ _ h1 (fun _ _ _ e => by cases e), h2.mono hI hφ, h3, h4⟩
  | iter m left cur =>
    obtain ⟨bm, since, seen, ents, h1, h2, h3, h4, h5, h6, h7⟩ := h
    refine ⟨bm, since, seen, ents, hφ _ _ h1, hM _ _ h2 (fun _ _ _ e => by cases e), hM _ _ h3 (fun _ _ _ e => by cases e), h4, h5, h6.mono hI hφ, fun k x hc => ?_⟩
    obtain ⟨e, q1, q2, q3, q4⟩ := h7 k x hc
    exact ⟨e, q1, q2, q3, Rel.mono hI hφ q4⟩
  | dead => trivial

def del (t : Nat) : Fr → Fr
  | [] => []
  | (k, x) :: F => bif (k == t || x.refers (.slot t)) then del t F else (k, x) :: del t F
def putF (t : Nat) (x : SV) (F : Fr) : Fr := (t, x) :: del t F
def getF (t : Nat) : Fr → Option SV
  | [] => none
  | (k, x) :: F => bif k == t then some x else getF t F
theorem mem_del {t k : Nat} {x : SV} : ∀ {F : Fr}, (k, x) ∈ del t F → (k, x) ∈ F ∧ k ≠ t ∧ x.refers (.slot t) = false
  | [], h => by cases h
  | (j, y) :: F, h => by
    unfold del at h
    cases hc : (j == t || y.refers (.slot t)) with
    | true =>
      rw [hc] at h
      obtain ⟨h1, h2⟩ := mem_del (F := F) (by simpa using h)
      exact ⟨List.mem_cons_of_mem _ h1, h2⟩
    | false =>
      rw [hc] at h
      simp only [cond_false, List.mem_cons, Prod.mk.injEq] at h
      rcases h with ⟨rfl, rfl⟩ | h
      · simp at hc
        exact ⟨by simp, hc.1, by simpa using hc.2⟩
      · obtain ⟨h1, h2⟩ := mem_del (F := F) h
        exact ⟨List.mem_cons_of_mem _ h1, h2⟩
theorem mem_getF {t : Nat} {x : SV} : ∀ {F : Fr}, getF t F = some x → (t, x) ∈ F
  | [], h => by cases h
  | (j, y) :: F, h => by
    unfold getF at h
    cases hc : j == t with
    | true =>
      rw [hc] at h
      simp at h hc
      subst h hc
      simp
    | false =>
      rw [hc] at h
      exact List.mem_cons_of_mem _ (mem_getF (by simpa using h))
end AM
end Go.Proofs.Ytoooldijnilpaaa
