/- An abstract memory: values without addresses, frames, blocks, and how states go on. Plain lemmas, over any program. -/
import Derived.Test.YtmjnffjacgjfmaaBase
namespace Go.Proofs.Ytmjnffjacgjfmaa
set_option linter.all false
open Go.RowKit
namespace AM

/-- A value without addresses of the heap: what is read through it stands in it (rd, sl), or lies in a block that has a number (ptr, map). -/
inductive V where
  | sc (v : Value)
  | agg (cs : List V)
  | tup (cs : List V)
  | nil
  | sl (n sz : Nat) (cs : List V)
  | rd (cs : List V)
  | ptr (id off : Nat)
  | map (id : Nat)
  | fn (f : Fn) (first cap : List V)
  | iface (t : TypeId) (v : V)
  /-- a slice whose capacity is its length -/
  | fs (n sz : Nat) (cs : List V)
  /-- a slice of a block that has a number: from where, how long, its capacity -/
  | slb (id off n cap : Nat)
  deriving Inhabited

/-- Where the one owner of a row stands: a slot of the frame, or a cell of a numbered block. -/
inductive Root where
  | slot (s : Nat)
  | cell (id off : Nat)
  deriving DecidableEq, Inhabited

/-- What a slot or a cell holds: a value; a row of the call's own; a way into such a row; such a row's header. -/
inductive SV where
  | v (x : V)
  | own (pr : Bool) (e n sz : Nat) (cs : List V)
  | pth (r : Root) (off : Nat)
  | lnk (r : Root) (n : Nat)
  | any
  deriving Inhabited

/-- What a block is for. -/
inductive Role where
  | out
  | abs (id : Nat)
  | own (r : Root)
  deriving DecidableEq, Inhabited

/-- Which cells never turn, where the numbered blocks lie, and what each block is for. -/
structure Cx where
  I : Nat → Nat → Option Value
  φ : List Nat
  R : Nat → Role

mutual
inductive Rel (I : Nat → Nat → Option Value) (φ : List Nat) : V → Value → Prop
  | sc (v : Value) : Rel I φ (.sc v) v
  | agg {cs : List V} {vs : Array Value} : RelL I φ cs vs.toList → Rel I φ (.agg cs) (.agg vs)
  | tup {cs : List V} {vs : Array Value} : RelL I φ cs vs.toList → Rel I φ (.tup cs) (.tuple vs)
  | nil : Rel I φ .nil (.slice none 0 0)
  | sl {sz : Nat} {cs : List V} {vs : List Value} {b o len cap : Nat} : RelL I φ cs vs → (∀ j u, vs[j]? = some u → I b (o + j) = some u) → cs.length = len * sz → len ≤ cap → cap ≤ maxLen → (∀ u ∈ vs, u.oneCell' = true) →
      Rel I φ (.sl len sz cs) (.slice (some ⟨b, o, none⟩) len cap)
  | sl0 {sz : Nat} {A : Option Addr} : Rel I φ (.sl 0 sz []) (.slice A 0 0)
  | rd {cs : List V} {vs : List Value} {b o : Nat} : RelL I φ cs vs → (∀ j u, vs[j]? = some u → I b (o + j) = some u) → (∀ u ∈ vs, u.oneCell' = true) → Rel I φ (.rd cs) (.pointer (some ⟨b, o, none⟩))
  | ptr {id off b : Nat} : φ[id]? = some b → Rel I φ (.ptr id off) (.pointer (some ⟨b, off, none⟩))
  | map {id b : Nat} : φ[id]? = some b → Rel I φ (.map id) (.map (some b))
  | fn {f : Fn} {first cap : List V} {first' cap' : Array Value} : RelL I φ first first'.toList → RelL I φ cap cap'.toList → Rel I φ (.fn f first cap) (.func f first' cap')
  | iface {t : TypeId} {x : V} {v : Value} : Rel I φ x v → Rel I φ (.iface t x) (.iface t v)
  | fs {sz : Nat} {cs : List V} {vs : List Value} {b o len : Nat} : RelL I φ cs vs → (∀ j u, vs[j]? = some u → I b (o + j) = some u) → cs.length = len * sz → len ≤ maxLen → (∀ u ∈ vs, u.oneCell' = true) → Rel I φ (.fs len sz cs) (.slice (some ⟨b, o, none⟩) len len)
  | fs0 {sz : Nat} {A : Option Addr} : Rel I φ (.fs 0 sz []) (.slice A 0 0)
  | slb {id off n cap b : Nat} : φ[id]? = some b → n ≤ cap → cap ≤ maxLen → Rel I φ (.slb id off n cap) (.slice (some ⟨b, off, none⟩) n cap)
  | slb0 {id off : Nat} {A : Option Addr} : Rel I φ (.slb id off 0 0) (.slice A 0 0)
inductive RelL (I : Nat → Nat → Option Value) (φ : List Nat) : List V → List Value → Prop
  | nil : RelL I φ [] []
  | cons {x : V} {v : Value} {xs : List V} {vs : List Value} : Rel I φ x v → RelL I φ xs vs → RelL I φ (x :: xs) (v :: vs)
end

section
variable {I I' : Nat → Nat → Option Value} {φ φ' : List Nat}
mutual
theorem Rel.mono (hI : ∀ b o v, I b o = some v → I' b o = some v) (hφ : ∀ id b : Nat, φ[id]? = some b → φ'[id]? = some b) : ∀ {x : V} {v : Value}, Rel I φ x v → Rel I' φ' x v
  | _, _, .sc v => .sc v
  | _, _, .agg h => .agg (RelL.mono hI hφ h)
  | _, _, .tup h => .tup (RelL.mono hI hφ h)
  | _, _, .nil => .nil
  | _, _, .sl h h1 h2 h3 h4 h5 => .sl (RelL.mono hI hφ h) (fun j u hu => hI _ _ _ (h1 j u hu)) h2 h3 h4 h5
  | _, _, .sl0 => .sl0
  | _, _, .rd h h1 h5 => .rd (RelL.mono hI hφ h) (fun j u hu => hI _ _ _ (h1 j u hu)) h5
  | _, _, .ptr h => .ptr (hφ _ _ h)
  | _, _, .map h => .map (hφ _ _ h)
  | _, _, .fn h h1 => .fn (RelL.mono hI hφ h) (RelL.mono hI hφ h1)
  | _, _, .iface h => .iface (Rel.mono hI hφ h)
  | _, _, .fs h h1 h2 h3 h4 => .fs (RelL.mono hI hφ h) (fun j u hu => hI _ _ _ (h1 j u hu)) h2 h3 h4
  | _, _, .fs0 => .fs0
  | _, _, .slb h h1 h2 => .slb (hφ _ _ h) h1 h2
  | _, _, .slb0 => .slb0
theorem RelL.mono (hI : ∀ b o v, I b o = some v → I' b o = some v) (hφ : ∀ id b : Nat, φ[id]? = some b → φ'[id]? = some b) : ∀ {x : List V} {v : List Value}, RelL I φ x v → RelL I' φ' x v
  | _, _, .nil => .nil
  | _, _, .cons h h1 => .cons (Rel.mono hI hφ h) (RelL.mono hI hφ h1)
end
theorem RelL.len {xs : List V} {vs : List Value} (h : RelL I φ xs vs) : xs.length = vs.length := by
  induction xs generalizing vs with
  | nil => cases h; rfl
  | cons x xs ih => cases h with | cons h h1 => simp [ih h1]
theorem RelL.get {xs : List V} {vs : List Value} (h : RelL I φ xs vs) {j : Nat} {x : V} (hx : xs[j]? = some x) : ∃ v, vs[j]? = some v ∧ Rel I φ x v := by
  induction xs generalizing vs j with
  | nil => simp at hx
  | cons y xs ih =>
    cases h with
    | cons h h1 =>
      cases j with
      | zero => simp at hx; subst hx; exact ⟨_, rfl, h⟩
      | succ j => simp at hx; simpa using ih h1 hx
theorem RelL.get' {xs : List V} {vs : List Value} (h : RelL I φ xs vs) {j : Nat} {v : Value} (hv : vs[j]? = some v) : ∃ x, xs[j]? = some x ∧ Rel I φ x v := by
  induction xs generalizing vs j with
  | nil => cases h; simp at hv
  | cons y xs ih =>
    cases h with
    | cons h h1 =>
      cases j with
      | zero => simp at hv; subst hv; exact ⟨_, rfl, h⟩
      | succ j => simp at hv; simpa using ih h1 hv
theorem RelL.of_get {xs : List V} {vs : List Value} (hl : xs.length = vs.length) (h : ∀ (j : Nat) (x : V) (v : Value), xs[j]? = some x → vs[j]? = some v → Rel I φ x v) : RelL I φ xs vs := by
  induction xs generalizing vs with
  | nil => cases vs with | nil => exact .nil | cons _ _ => simp at hl
  | cons x xs ih =>
    cases vs with
    | nil => simp at hl
    | cons v vs => exact .cons (h 0 x v rfl rfl) (ih (by simpa using hl) fun j x v hx hv => h (j + 1) x v (by simpa using hx) (by simpa using hv))
theorem RelL.append {xs ys : List V} {vs us : List Value} (h : RelL I φ xs vs) (k : RelL I φ ys us) : RelL I φ (xs ++ ys) (vs ++ us) := by
  induction xs generalizing vs with
  | nil => cases h; exact k
  | cons x xs ih => cases h with | cons h h1 => exact .cons h (ih h1)
theorem RelL.take {xs : List V} {vs : List Value} (h : RelL I φ xs vs) (n : Nat) : RelL I φ (xs.take n) (vs.take n) :=
  .of_get (by simp [h.len]) fun j x v hx hv => by
    rw [List.getElem?_take] at hx hv
    by_cases hj : j < n
    · rw [if_pos hj] at hx hv
      obtain ⟨u, hu, hr⟩ := h.get hx
      rw [hv] at hu; cases hu; exact hr
    · rw [if_neg hj] at hx; cases hx
theorem RelL.drop {xs : List V} {vs : List Value} (h : RelL I φ xs vs) (n : Nat) : RelL I φ (xs.drop n) (vs.drop n) :=
  .of_get (by simp [h.len]) fun j x v hx hv => by
    rw [List.getElem?_drop] at hx hv
    obtain ⟨u, hu, hr⟩ := h.get hx
    rw [hv] at hu; cases hu; exact hr
theorem RelL.set {xs : List V} {vs : List Value} (h : RelL I φ xs vs) (n : Nat) {x : V} {v : Value} (hx : Rel I φ x v) : RelL I φ (xs.set n x) (vs.set n v) :=
  .of_get (by simp [h.len]) fun j y u hy hu => by
    rw [List.getElem?_set] at hy hu
    by_cases hj : n = j
    · rw [if_pos hj] at hy hu
      split at hy
      · split at hu
        · cases hy; cases hu; exact hx
        · cases hu
      · cases hy
    · rw [if_neg hj] at hy hu
      obtain ⟨u', hu', hr⟩ := h.get hy
      rw [hu] at hu'; cases hu'; exact hr
theorem RelL.unappend {xs ys : List V} {vs : List Value} (h : RelL I φ (xs ++ ys) vs) : ∃ v1 v2, vs = v1 ++ v2 ∧ RelL I φ xs v1 ∧ RelL I φ ys v2 := by
  refine ⟨vs.take xs.length, vs.drop xs.length, (List.take_append_drop _ _).symm, ?_, ?_⟩
  · have := h.take xs.length
    rwa [List.take_left] at this
  · have := h.drop xs.length
    rwa [List.drop_left] at this
end

/-! ## Values that stand whole in themselves -/
mutual
def V.exact : V → Option Value
  | .sc v => some v
  | .agg cs => match V.exactL cs with
    | some l => some (.agg l.toArray)
    | none => none
  | .tup cs => match V.exactL cs with
    | some l => some (.tuple l.toArray)
    | none => none
  | .nil => some (.slice none 0 0)
  | .iface t x => match x.exact with
    | some v => some (.iface t v)
    | none => none
  | .fn f first cap => match V.exactL first, V.exactL cap with
    | some a, some b => some (.func f a.toArray b.toArray)
    | _, _ => none
  | _ => none
def V.exactL : List V → Option (List Value)
  | [] => some []
  | x :: xs => match x.exact, V.exactL xs with
    | some v, some l => some (v :: l)
    | _, _ => none
end
section
variable {I : Nat → Nat → Option Value} {φ : List Nat}
mutual
theorem Rel.exact : ∀ {x : V} {v u : Value}, Rel I φ x v → x.exact = some u → v = u
  | _, _, _, .sc v, h => by simpa [V.exact] using h
  | _, _, _, .agg (cs := cs) hl, h => by
    unfold V.exact at h
    cases hc : V.exactL cs with
    | none => rw [hc] at h; cases h
    | some l =>
      rw [hc] at h
      have := RelL.exact hl hc
      simp at h
      rw [← h, ← this]
  | _, _, _, .tup (cs := cs) hl, h => by
    unfold V.exact at h
    cases hc : V.exactL cs with
    | none => rw [hc] at h; cases h
    | some l =>
      rw [hc] at h
      have := RelL.exact hl hc
      simp at h
      rw [← h, ← this]
  | _, _, _, .nil, h => by simpa [V.exact] using h
  | _, _, _, .sl .., h => by simp [V.exact] at h
  | _, _, _, .sl0 .., h => by simp [V.exact] at h
  | _, _, _, .rd .., h => by simp [V.exact] at h
  | _, _, _, .ptr .., h => by simp [V.exact] at h
  | _, _, _, .map .., h => by simp [V.exact] at h
  | _, _, _, .fs .., h => by simp [V.exact] at h
  | _, _, _, .fs0 .., h => by simp [V.exact] at h
  | _, _, _, .slb .., h => by simp [V.exact] at h
  | _, _, _, .slb0 .., h => by simp [V.exact] at h
  | _, _, _, .fn (first := fs) (cap := cs) h1 h2, h => by
    unfold V.exact at h
    cases hc : V.exactL fs with
    | none => rw [hc] at h; cases h
    | some l =>
      cases hd : V.exactL cs with
      | none => rw [hc, hd] at h; cases h
      | some k =>
        rw [hc, hd] at h
        have e1 := RelL.exact h1 hc
        have e2 := RelL.exact h2 hd
        simp at h
        rw [← h, ← e1, ← e2]
  | _, _, _, .iface (x := x) h1, h => by
    unfold V.exact at h
    cases hc : x.exact with
    | none => rw [hc] at h; cases h
    | some l =>
      rw [hc] at h
      have := Rel.exact h1 hc
      simp at h
      rw [← h, this]
theorem RelL.exact : ∀ {xs : List V} {vs us : List Value}, RelL I φ xs vs → V.exactL xs = some us → vs = us
  | _, _, _, .nil, h => by simpa [V.exactL] using h
  | _, _, _, .cons (x := x) (xs := xs) h1 h2, h => by
    unfold V.exactL at h
    cases hc : x.exact with
    | none => rw [hc] at h; cases h
    | some v =>
      cases hd : V.exactL xs with
      | none => rw [hc, hd] at h; cases h
      | some k =>
        rw [hc, hd] at h
        simp at h
        rw [← h, Rel.exact h1 hc, RelL.exact h2 hd]
end
end

def V.ofCell : Value → V
  | .slice none 0 0 => .nil
  | v => .sc v
def V.ofPart : Value → V
  | .agg cs => .agg (cs.toList.map V.ofCell)
  | v => V.ofCell v
def V.ofValue : Value → V
  | .tuple vs => .tup (vs.toList.map V.ofPart)
  | v => V.ofPart v
section
variable {I : Nat → Nat → Option Value} {φ : List Nat}
theorem ofCell_rel (v : Value) : Rel I φ (V.ofCell v) v := by
  unfold V.ofCell
  split
  · exact .nil
  · exact .sc _
theorem relL_map {f : Value → V} (hf : ∀ v, Rel I φ (f v) v) : ∀ vs : List Value, RelL I φ (vs.map f) vs
  | [] => .nil
  | v :: vs => .cons (hf v) (relL_map hf vs)
theorem ofPart_rel (v : Value) : Rel I φ (V.ofPart v) v := by
  unfold V.ofPart
  split
  · exact .agg (relL_map ofCell_rel _)
  · exact ofCell_rel _
theorem ofValue_rel (v : Value) : Rel I φ (V.ofValue v) v := by
  unfold V.ofValue
  split
  · exact .tup (relL_map ofPart_rel _)
  · exact ofPart_rel _
end

/-- The cells of a value. -/
def V.cells : V → List V
  | .agg cs => cs
  | v => [v]

/-! ## Blocks, frames, states -/
inductive Bk where
  | cells (cs : List SV)
  | map (es : List (Value × V))
  | iter (m : Nat) (left : List (Value × V)) (cur : Option (Value × V))
  | dead
  deriving Inhabited

abbrev Fr := List (Nat × SV)
structure St where
  F : Fr
  H : List Bk

def SV.refers (r : Root) : SV → Bool
  | .pth r' _ => r' == r
  | .lnk r' _ => r' == r
  | _ => false

/-- A cell of a block holds no way and no header. -/
def SV.flat : SV → Bool
  | .v _ | .own .. | .any => true
  | _ => false

def SRel (c : Cx) (w : World) (r : Root) : SV → Value → Prop
  | .v x, u => Rel c.I c.φ x u
  | .own pr e n sz cs, u => 0 < sz ∧ ∃ vs, RelL c.I c.φ cs vs ∧ w.ownsRow 0 e sz u n vs ∧ (∀ x ∈ vs, x.oneCell' = true) ∧ ∀ b, u.ownBlock = some b → c.R b = .own r ∧ ∀ o, c.I b o = if pr then none else vs[o]?
  | .pth r' off, u => ∃ b, u = .pointer (some ⟨b, off, none⟩) ∧ c.R b = .own r'
  | .lnk r' n, u => (u = .slice none 0 0 ∧ n = 0) ∨ ∃ b cap, u = .slice (some ⟨b, 0, none⟩) n cap ∧ c.R b = .own r'
  | .any, _ => True

/-- The entries of a map. -/
inductive MRel (I : Nat → Nat → Option Value) (φ : List Nat) : List (Value × V) → List MapEntry → Prop
  | nil : MRel I φ [] []
  | cons {k : Value} {x : V} {e : MapEntry} {es : List (Value × V)} {l : List MapEntry} : e.key = k → Rel I φ x e.val → MRel I φ es l → MRel I φ ((k, x) :: es) (e :: l)

def BRel (c : Cx) (w : World) (id b : Nat) : Bk → Prop
  | .cells cs => ∃ arr e, w.heap[b]? = some (.cells arr e (0, 0)) ∧ arr.size = cs.length ∧ (∀ v ∈ arr.toList, v.oneCell' = true) ∧ ∀ j x v, cs[j]? = some x → arr[j]? = some v → x.flat = true ∧ SRel c w (.cell id j) x v
  | .map es => ∃ ents clock, w.heap[b]? = some (.map ents clock) ∧ MRel c.I c.φ es ents.toList ∧ (∀ e ∈ ents.toList, e.born < clock) ∧ (ents.toList.map (·.born)).Nodup
  | .iter m left cur => ∃ bm since seen ents, c.φ[m]? = some bm ∧ w.heap[b]? = some (.mapIter (some bm) since seen since) ∧ w.heap[bm]? = some (.map ents since) ∧ (∀ e ∈ ents.toList, e.born < since) ∧ (ents.toList.map (·.born)).Nodup ∧
      MRel c.I c.φ left (ents.toList.filter fun e => !seen.contains e.born) ∧ (∀ k x, cur = some (k, x) → ∃ e, seen.back? = some e.born ∧ e ∈ ents.toList ∧ e.key = k ∧ Rel c.I c.φ x e.val)
  | .dead => True

structure Inv (c : Cx) (H : List Bk) (w : World) : Prop where
  imm : ∀ b o v, c.I b o = some v → w.cell? ⟨b, o, none⟩ = some v
  len : c.φ.length = H.length
  lt : ∀ b, c.R b ≠ .out → b < w.heap.size
  uniq : ∀ b b' r, c.R b = .own r → c.R b' = .own r → b = b'
  blk : ∀ (id b : Nat) (k : Bk), c.φ[id]? = some b → H[id]? = some k → c.R b = .abs id ∧ (∀ o, c.I b o = none) ∧ BRel c w id b k

structure Sim (c : Cx) (N : Nat) (s : St) (a : Act) (w : World) : Prop where
  inv : Inv c s.H w
  size : a.tmps.size = N
  defers : a.defers = []
  fr : ∀ t x, (t, x) ∈ s.F → ∃ v, a.tmps[t]? = some v ∧ SRel c w (.slot t) x v

/-- What a stretch of a call may turn: nothing that is not its own. -/
structure Ext (c : Cx) (w : World) (c' : Cx) (w' : World) : Prop where
  os : w'.os = w.os
  tape : w'.tape = w.tape
  output : w'.output = w.output
  size : w.heap.size ≤ w'.heap.size
  out : ∀ b, b < w.heap.size → c.R b = .out → w'.heap[b]? = w.heap[b]? ∧ c'.R b = .out ∧ ∀ o, c'.I b o = c.I b o
  imm : ∀ b o v, c.I b o = some v → c'.I b o = some v
  phi : ∀ id b : Nat, c.φ[id]? = some b → c'.φ[id]? = some b

section
variable {c c' c'' : Cx} {w w' w'' : World} {H : List Bk}
theorem Ext.refl (c : Cx) (w : World) : Ext c w c w := ⟨rfl, rfl, rfl, Nat.le_refl _, fun _ _ h => ⟨rfl, h, fun _ => rfl⟩, fun _ _ _ h => h, fun _ _ h => h⟩
theorem Ext.trans (h : Ext c w c' w') (k : Ext c' w' c'' w'') : Ext c w c'' w'' :=
  ⟨k.os.trans h.os, k.tape.trans h.tape, k.output.trans h.output, Nat.le_trans h.size k.size,
    fun b hb hr => by
      obtain ⟨h1, h2, h3⟩ := h.out b hb hr
      obtain ⟨k1, k2, k3⟩ := k.out b (Nat.lt_of_lt_of_le hb h.size) h2
      exact ⟨k1.trans h1, k2, fun o => (k3 o).trans (h3 o)⟩,
    fun b o v hv => k.imm b o v (h.imm b o v hv), fun id b hb => k.phi id b (h.phi id b hb)⟩

/-- What holds of a slot goes on to hold. -/
theorem SRel.mono (hI : ∀ b o v, c.I b o = some v → c'.I b o = some v) (hφ : ∀ id b : Nat, c.φ[id]? = some b → c'.φ[id]? = some b) {r : Root} {x : SV} {v : Value}
    (ho : ∀ b r', (r' = r ∨ x.refers r' = true) → c.R b = .own r' → c'.R b = .own r' ∧ w'.heap[b]? = w.heap[b]? ∧ ∀ o, c'.I b o = c.I b o) (h : SRel c w r x v) : SRel c' w' r x v := by
  cases x with
  | v x => exact Rel.mono hI hφ h
  | own pr e n sz cs =>
    obtain ⟨h0, vs, h1, h2, h4, h3⟩ := h
    refine ⟨h0, vs, RelL.mono hI hφ h1, own_keep h2 fun g hg => (ho g r (.inl rfl) (h3 g hg).1).2.1, h4, fun b hb => ?_⟩
    obtain ⟨k1, k2⟩ := h3 b hb
    obtain ⟨k3, k4, k5⟩ := ho b r (.inl rfl) k1
    exact ⟨k3, fun o => (k5 o).trans (k2 o)⟩
  | pth r' off =>
    obtain ⟨b, rfl, h1⟩ := h
    exact ⟨b, rfl, (ho b r' (.inr (by simp [SV.refers])) h1).1⟩
  | lnk r' n =>
    rcases h with h | ⟨b, cap, rfl, h1⟩
    · exact .inl h
    · exact .inr ⟨b, cap, rfl, (ho b r' (.inr (by simp [SV.refers])) h1).1⟩
  | any => trivial
end

theorem MRel.mono {I I' : Nat → Nat → Option Value} {φ φ' : List Nat} (hI : ∀ b o v, I b o = some v → I' b o = some v) (hφ : ∀ id b : Nat, φ[id]? = some b → φ'[id]? = some b) {es : List (Value × V)} {l : List MapEntry} (h : MRel I φ es l) : MRel I' φ' es l := by
  induction h with
  | nil => exact .nil
  | cons h1 h2 _ ih => exact .cons h1 (Rel.mono hI hφ h2) ih
/-- A map or a walk over one goes on as it was. -/
theorem BRel.stay {c c' : Cx} {w w' : World} {id id' b : Nat} {k : Bk} (hk : ∀ cs, k ≠ .cells cs) (h : BRel c w id b k) (hI : ∀ b o v, c.I b o = some v → c'.I b o = some v) (hφ : ∀ id b : Nat, c.φ[id]? = some b → c'.φ[id]? = some b)
    (hM : ∀ (b' : Nat) (o : Obj), w.heap[b']? = some o → (∀ arr e f, o ≠ Obj.cells arr e f) → w'.heap[b']? = some o) : BRel c' w' id' b k := by
  cases k with
  | cells cs => exact absurd rfl (hk cs)
  | map es =>
    obtain ⟨ents, clock, h1, h2, h3, h4⟩ := h
    exact ⟨ents, clock, hM _ _ h1 (fun _ _ _ e => by cases e), h2.mono hI hφ, h3, h4⟩
  | iter m left cur =>
    obtain ⟨bm, since, seen, ents, h1, h2, h3, h4, h5, h6, h7⟩ := h
    refine ⟨bm, since, seen, ents, hφ _ _ h1, hM _ _ h2 (fun _ _ _ e => by cases e), hM _ _ h3 (fun _ _ _ e => by cases e), h4, h5, h6.mono hI hφ, fun k x hc => ?_⟩
    obtain ⟨e, q1, q2, q3, q4⟩ := h7 k x hc
    exact ⟨e, q1, q2, q3, Rel.mono hI hφ q4⟩
  | dead => trivial

def del (t : Nat) : Fr → Fr
  | [] => []
  | (k, x) :: F => bif (k == t || x.refers (.slot t)) then del t F else (k, x) :: del t F
def putF (t : Nat) (x : SV) (F : Fr) : Fr := (t, x) :: del t F
def getF (t : Nat) : Fr → Option SV
  | [] => none
  | (k, x) :: F => bif k == t then some x else getF t F
theorem mem_del {t k : Nat} {x : SV} : ∀ {F : Fr}, (k, x) ∈ del t F → (k, x) ∈ F ∧ k ≠ t ∧ x.refers (.slot t) = false
  | [], h => by cases h
  | (j, y) :: F, h => by
    unfold del at h
    cases hc : (j == t || y.refers (.slot t)) with
    | true =>
      rw [hc] at h
      obtain ⟨h1, h2⟩ := mem_del (F := F) (by simpa using h)
      exact ⟨List.mem_cons_of_mem _ h1, h2⟩
    | false =>
      rw [hc] at h
      simp only [cond_false, List.mem_cons, Prod.mk.injEq] at h
      rcases h with ⟨rfl, rfl⟩ | h
      · simp at hc
        exact ⟨by simp, hc.1, by simpa using hc.2⟩
      · obtain ⟨h1, h2⟩ := mem_del (F := F) h
        exact ⟨List.mem_cons_of_mem _ h1, h2⟩
theorem mem_getF {t : Nat} {x : SV} : ∀ {F : Fr}, getF t F = some x → (t, x) ∈ F
  | [], h => by cases h
  | (j, y) :: F, h => by
    unfold getF at h
    cases hc : j == t with
    | true =>
      rw [hc] at h
      simp at h hc
      subst h hc
      simp
    | false =>
      rw [hc] at h
      exact List.mem_cons_of_mem _ (mem_getF (by simpa using h))
end AM
end Go.Proofs.Ytmjnffjacgjfmaa
namespace Go.Proofs.Ytmjnffjacgjfmaa
set_option linter.all false
open Go.RowKit
namespace AM
section
variable {c : Cx} {N : Nat} {F : Fr} {H : List Bk} {a : Act} {w : World}

theorem flat_refers {x : SV} (h : x.flat = true) (r : Root) : x.refers r = false := by
  cases x <;> first | rfl | cases h

theorem Sim.sub {F' : Fr} (h : Sim c N ⟨F, H⟩ a w) (hs : ∀ p, p ∈ F' → p ∈ F) : Sim c N ⟨F', H⟩ a w :=
  ⟨h.inv, h.size, h.defers, fun t x hx => h.fr t x (hs _ hx)⟩

/-- Some root lets its row go. -/
def Cx.free (c : Cx) (r : Root) : Cx := { c with R := fun b => if c.R b = .own r then .out else c.R b }
theorem free_out {r : Root} {b : Nat} (h : c.R b = .out) : (c.free r).R b = .out := by simp [Cx.free, h]
theorem free_abs {r : Root} {b id : Nat} (h : c.R b = .abs id) : (c.free r).R b = .abs id := by simp [Cx.free, h]
theorem free_own {r r' : Root} {b : Nat} (h : c.R b = .own r') (hne : r' ≠ r) : (c.free r).R b = .own r' := by
  simp [Cx.free, h, hne]
theorem free_ne {r : Root} {b : Nat} : (c.free r).R b ≠ .own r := by
  unfold Cx.free
  by_cases h : c.R b = .own r <;> simp [h]
theorem free_back {r r' : Root} {b : Nat} (h : (c.free r).R b = .own r') : c.R b = .own r' ∧ r' ≠ r := by
  unfold Cx.free at h
  by_cases h1 : c.R b = .own r
  · simp [h1] at h
  · simp only [h1, if_false] at h
    exact ⟨h, fun e => h1 (e ▸ h)⟩
theorem free_back' {r : Root} {b : Nat} (h : (c.free r).R b ≠ .out) : c.R b ≠ .out := fun e => h (free_out e)
theorem Ext.free (c : Cx) (w : World) (r : Root) : Ext c w (c.free r) w :=
  ⟨rfl, rfl, rfl, Nat.le_refl _, fun _ _ h => ⟨rfl, free_out h, fun _ => rfl⟩, fun _ _ _ h => h, fun _ _ h => h⟩

theorem SRel.free {r r' : Root} {x : SV} {v : Value} (h : SRel c w r x v) (h1 : r ≠ r') (h2 : x.refers r' = false) : SRel (c.free r') w r x v :=
  SRel.mono (c := c) (w := w) (c' := c.free r') (fun _ _ _ h => h) (fun _ _ h => h) (fun b q hq hb => ⟨free_own hb (by
    rintro rfl
    rcases hq with rfl | hq
    · exact h1 rfl
    · rw [h2] at hq; cases hq), rfl, fun _ => rfl⟩) h

/-- A root that holds no row now. -/
def Bare (H : List Bk) : Root → Prop
  | .slot _ => True
  | .cell id j => ∀ cs, H[id]? = some (.cells cs) → ∀ x, cs[j]? = some x → (∃ y, x = .v y) ∨ x = .any

theorem Inv.free {r : Root} (h : Inv c H w) (hr : Bare H r) : Inv (c.free r) H w :=
  ⟨h.imm, h.len, fun b hb => h.lt b (free_back' hb), fun b b' r hb hb' => h.uniq b b' r (free_back hb).1 (free_back hb').1, fun id b k hb hk => by
    obtain ⟨h1, h2, h3⟩ := h.blk id b k hb hk
    refine ⟨free_abs h1, h2, ?_⟩
    by_cases hck : ∃ cs, k = .cells cs
    rotate_left
    · exact BRel.stay (fun cs e => hck ⟨cs, e⟩) h3 (fun _ _ _ h => h) (fun _ _ h => h) (fun _ _ h _ => h)
    obtain ⟨cs, rfl⟩ := hck
    obtain ⟨arr, e, g1, g2, g6, g3⟩ := h3
    refine ⟨arr, e, g1, g2, g6, fun j x v hx hv => ?_⟩
    obtain ⟨g4, g5⟩ := g3 j x v hx hv
    refine ⟨g4, ?_⟩
    by_cases hrj : Root.cell id j = r
    · subst hrj
      rcases hr cs hk x hx with ⟨y, rfl⟩ | rfl
      · exact (show Rel c.I c.φ y v from g5)
      · trivial
    · exact g5.free hrj (flat_refers g4 _)⟩

theorem Sim.free {r : Root} (h : Sim c N ⟨F, H⟩ a w) (hr : Bare H r) (hF : ∀ k x, (k, x) ∈ F → Root.slot k ≠ r ∧ x.refers r = false) : Sim (c.free r) N ⟨F, H⟩ a w :=
  ⟨h.inv.free hr, h.size, h.defers, fun t x hx => by
    obtain ⟨v, hv, h1⟩ := h.fr t x hx
    exact ⟨v, hv, h1.free (hF t x hx).1 (hF t x hx).2⟩⟩

/-- What may be laid into slot t as it is. -/
def Fit (t : Nat) : SV → Prop
  | .v _ => True
  | .any => True
  | .own .. => False
  | .pth r _ => r ≠ .slot t
  | .lnk r _ => r ≠ .slot t

theorem SRel.fit {t : Nat} {x : SV} {v : Value} (hf : Fit t x) (hx : SRel c w (.slot t) x v) : SRel (c.free (.slot t)) w (.slot t) x v := by
  cases x with
  | v y => exact hx
  | own => exact hf.elim
  | pth r off =>
    obtain ⟨b, rfl, hb⟩ := hx
    exact ⟨b, rfl, free_own hb hf⟩
  | lnk r n =>
    rcases hx with hx | ⟨b, cap, rfl, hb⟩
    · exact .inl hx
    · exact .inr ⟨b, cap, rfl, free_own hb hf⟩
  | any => trivial
theorem Sim.put' {t : Nat} {x : SV} {v : Value} (h : Sim c N ⟨F, H⟩ a w) (ht : t < N) (hx : SRel (c.free (.slot t)) w (.slot t) x v) : Sim (c.free (.slot t)) N ⟨putF t x F, H⟩ (a.put (some t) v) w := by
  have h0 : Sim c N ⟨del t F, H⟩ a w := h.sub fun p hp => (mem_del (x := p.2) (k := p.1) hp).1
  have h1 := h0.free (r := .slot t) trivial fun k x hx => ⟨by simpa using (mem_del hx).2.1, (mem_del hx).2.2⟩
  refine ⟨h1.inv, by simpa [Act.put] using h.size, h.defers, fun k y hy => ?_⟩
  unfold putF at hy
  simp only [List.mem_cons, Prod.mk.injEq] at hy
  rcases hy with ⟨rfl, rfl⟩ | hy
  · exact ⟨v, by simp [Act.put, Array.getElem?_setIfInBounds, h.size, ht], hx⟩
  · obtain ⟨u, hu, h3⟩ := h1.fr k y hy
    exact ⟨u, by simpa [Act.put, Array.getElem?_setIfInBounds, Ne.symm (mem_del hy).2.1] using hu, h3⟩
theorem Sim.put {t : Nat} {x : SV} {v : Value} (h : Sim c N ⟨F, H⟩ a w) (ht : t < N) (hf : Fit t x) (hx : SRel c w (.slot t) x v) : Sim (c.free (.slot t)) N ⟨putF t x F, H⟩ (a.put (some t) v) w :=
  h.put' ht (hx.fit hf)

/-- A row that no slot and no cell holds comes to slot t. -/
def Cx.give (c : Cx) (b : Nat) (r : Root) : Cx := { c with R := fun k => if k = b then .own r else if c.R k = .own r then .out else c.R k }
theorem give_self {b : Nat} {r : Root} : (c.give b r).R b = .own r := by simp [Cx.give]
theorem give_own {b k : Nat} {r r' : Root} (h : c.R k = .own r') (h1 : k ≠ b) (h2 : r' ≠ r) : (c.give b r).R k = .own r' := by
  simp [Cx.give, h1, h, h2]
theorem give_abs {b k id : Nat} {r : Root} (h : c.R k = .abs id) (h1 : k ≠ b) : (c.give b r).R k = .abs id := by simp [Cx.give, h1, h]
theorem give_back {b k : Nat} {r r' : Root} (h : (c.give b r).R k = .own r') : (k = b ∧ r' = r) ∨ (c.R k = .own r' ∧ r' ≠ r ∧ k ≠ b) := by
  unfold Cx.give at h
  by_cases h1 : k = b
  · simp [h1] at h; exact .inl ⟨h1, h.symm⟩
  · simp only [h1, if_false] at h
    by_cases h2 : c.R k = .own r
    · simp [h2] at h
    · simp only [h2, if_false] at h
      exact .inr ⟨h, fun e => h2 (e ▸ h), h1⟩
theorem give_back' {b k : Nat} {r : Root} (h : (c.give b r).R k ≠ .out) : k = b ∨ c.R k ≠ .out := by
  by_cases h1 : k = b
  · exact .inl h1
  · refine .inr fun e => h ?_
    simp [Cx.give, h1, e]

theorem SRel.give {b : Nat} {r r' : Root} {x : SV} {v : Value} (h : SRel c w r' x v) (hb : ∀ q, (q = r' ∨ x.refers q = true) → c.R b ≠ .own q) (h1 : r' ≠ r) (h2 : x.refers r = false) : SRel (c.give b r) w r' x v :=
  SRel.mono (c := c) (w := w) (c' := c.give b r) (fun _ _ _ h => h) (fun _ _ h => h) (fun k q hq hk => ⟨give_own hk (by rintro rfl; exact hb q hq hk) (by
    rintro rfl
    rcases hq with rfl | hq
    · exact h1 rfl
    · rw [h2] at hq; cases hq), rfl, fun _ => rfl⟩) h

theorem Inv.give {b : Nat} {r : Root} (h : Inv c H w) (hb : b < w.heap.size) (hr : Bare H r) (hab : ∀ id, c.R b ≠ .abs id) (hown : ∀ id j, c.R b = .own (.cell id j) → Bare H (.cell id j)) : Inv (c.give b r) H w :=
  ⟨h.imm, h.len, fun k hk => by
    rcases give_back' hk with rfl | hk
    · exact hb
    · exact h.lt k hk, fun k k' q hk hk' => by
    rcases give_back hk with ⟨rfl, rfl⟩ | ⟨h1, h2, h3⟩ <;> rcases give_back hk' with ⟨rfl, e⟩ | ⟨g1, g2, g3⟩
    · rfl
    · exact absurd rfl g2
    · exact absurd e h2
    · exact h.uniq k k' q h1 g1, fun id k blk hk hblk => by
    obtain ⟨h1, h2, h3⟩ := h.blk id k blk hk hblk
    refine ⟨give_abs h1 (fun e => hab id (e ▸ h1)), h2, ?_⟩
    by_cases hck : ∃ cs, blk = .cells cs
    rotate_left
    · exact BRel.stay (fun cs e => hck ⟨cs, e⟩) h3 (fun _ _ _ h => h) (fun _ _ h => h) (fun _ _ h _ => h)
    obtain ⟨cs, rfl⟩ := hck
    obtain ⟨arr, e, g1, g2, g6, g3⟩ := h3
    refine ⟨arr, e, g1, g2, g6, fun j x v hx hv => ?_⟩
    obtain ⟨g4, g5⟩ := g3 j x v hx hv
    refine ⟨g4, ?_⟩
    by_cases hrj : Root.cell id j = r
    · subst hrj
      rcases hr cs hblk x hx with ⟨y, rfl⟩ | rfl
      · exact (show Rel c.I c.φ y v from g5)
      · trivial
    · by_cases hbj : c.R b = .own (.cell id j)
      · rcases hown id j hbj cs hblk x hx with ⟨y, rfl⟩ | rfl
        · exact (show Rel c.I c.φ y v from g5)
        · trivial
      · refine g5.give (fun q hq => ?_) hrj (flat_refers g4 _)
        rcases hq with rfl | hq
        · exact hbj
        · rw [flat_refers g4] at hq; cases hq⟩

theorem Ext.give {b : Nat} {r : Root} (c : Cx) (w : World) (hb : b < w.heap.size → c.R b ≠ .out) : Ext c w (c.give b r) w :=
  ⟨rfl, rfl, rfl, Nat.le_refl _, fun k hk h => ⟨rfl, by
    have : k ≠ b := by rintro rfl; exact hb hk h
    simp [Cx.give, this, h], fun _ => rfl⟩, fun _ _ _ h => h, fun _ _ h => h⟩

/-- Slot t is filled with a row that nobody else holds. -/
theorem Sim.put_own {t b : Nat} {pr : Bool} {e n sz : Nat} {cs : List V} {v : Value} (h : Sim c N ⟨F, H⟩ a w) (ht : t < N) (hb : b < w.heap.size) (hab : ∀ id, c.R b ≠ .abs id) (hcell : ∀ id j, c.R b = .own (.cell id j) → Bare H (.cell id j))
    (hF : ∀ k x, (k, x) ∈ del t F → c.R b ≠ .own (.slot k) ∧ ∀ q, c.R b = .own q → x.refers q = false) (hx : SRel (c.give b (.slot t)) w (.slot t) (.own pr e n sz cs) v) :
    Sim (c.give b (.slot t)) N ⟨putF t (.own pr e n sz cs) F, H⟩ (a.put (some t) v) w := by
  refine ⟨h.inv.give hb trivial hab hcell, by simpa [Act.put] using h.size, h.defers, fun k y hy => ?_⟩
  unfold putF at hy
  simp only [List.mem_cons, Prod.mk.injEq] at hy
  rcases hy with ⟨rfl, rfl⟩ | hy
  · exact ⟨v, by simp [Act.put, Array.getElem?_setIfInBounds, h.size, ht], hx⟩
  · obtain ⟨h1, h2, h3⟩ := mem_del hy
    obtain ⟨u, hu, h4⟩ := h.fr k y h1
    refine ⟨u, by simpa [Act.put, Array.getElem?_setIfInBounds, Ne.symm h2] using hu, h4.give (fun q hq e => ?_) (by simpa using h2) h3⟩
    obtain ⟨g1, g2⟩ := hF k y hy
    rcases hq with rfl | hq
    · exact g1 e
    · rw [g2 q e] at hq; cases hq

/-! ## A new block -/
def Cx.lay (c : Cx) (b : Nat) : Cx := { c with φ := c.φ ++ [b], R := fun k => if k = b then .abs c.φ.length else c.R k }

theorem phi_lay {id k b : Nat} (h : (c.lay b).φ[id]? = some k) : c.φ[id]? = some k ∨ (id = c.φ.length ∧ k = b) := by
  unfold Cx.lay at h
  simp only at h
  rw [List.getElem?_append] at h
  split at h
  · exact .inl h
  · rename_i hlt
    right
    rw [List.getElem?_singleton] at h
    split at h
    · exact ⟨by omega, by simpa using h.symm⟩
    · cases h
theorem lay_phi {id k : Nat} (b : Nat) (h : c.φ[id]? = some k) : (c.lay b).φ[id]? = some k := by
  unfold Cx.lay
  simp only
  rw [List.getElem?_append_left (List.getElem?_eq_some_iff.1 h).1]
  exact h
theorem fresh_out (h : Inv c H w) : c.R w.heap.size = .out := by
  by_cases hr : c.R w.heap.size = .out
  · exact hr
  · have := h.lt _ hr; omega
theorem fresh_imm (h : Inv c H w) (b o : Nat) (hb : w.heap.size ≤ b) : c.I b o = none := by
  cases hi : c.I b o with
  | none => rfl
  | some v =>
    have := World.block_lt_of_cell? w ⟨b, o, none⟩ (h.imm b o v hi)
    simp at this
    omega
theorem heap_alloc_lt {o : Obj} {k : Nat} (h : k < w.heap.size) : (w.alloc o).heap[k]? = w.heap[k]? := Below.heap_alloc w o k h

theorem SRel.lay {r : Root} {x : SV} {v : Value} (hi : Inv c H w) (o : Obj) (h : SRel c w r x v) : SRel (c.lay w.heap.size) (w.alloc o) r x v :=
  SRel.mono (c := c) (w := w) (c' := c.lay w.heap.size) (w' := w.alloc o) (fun _ _ _ h => h) (fun _ _ h => lay_phi _ h) (fun b q _ hb => by
    have hlt := hi.lt b (by rw [hb]; simp)
    exact ⟨by simp [Cx.lay, Nat.ne_of_lt hlt, hb], heap_alloc_lt hlt, fun _ => rfl⟩) h
/-- A block that nothing leads to beside what was there. -/
theorem SRel.more {r : Root} {x : SV} {v : Value} (hi : Inv c H w) (o : Obj) (h : SRel c w r x v) : SRel c (w.alloc o) r x v :=
  SRel.mono (c := c) (w := w) (c' := c) (w' := w.alloc o) (fun _ _ _ h => h) (fun _ _ h => h) (fun b q _ hb => ⟨hb, heap_alloc_lt (hi.lt b (by rw [hb]; simp)), fun _ => rfl⟩) h

theorem obj_lt {k : Nat} {x : Obj} (h : w.heap[k]? = some x) : k < w.heap.size := (Array.getElem?_eq_some_iff.1 h).1
theorem alloc_obj {o x : Obj} {k : Nat} (h : w.heap[k]? = some x) : (w.alloc o).heap[k]? = some x := (heap_alloc_lt (obj_lt h)).trans h
theorem cell_alloc' {o : Obj} {p : Addr} {v : Value} (h : w.cell? p = some v) : (w.alloc o).cell? p = some v := by
  rw [World.cell?_of_block (heap_alloc_lt (World.block_lt_of_cell? w p h))]; exact h

theorem Inv.more (h : Inv c H w) (o : Obj) : Inv c H (w.alloc o) :=
  ⟨fun b j v hv => cell_alloc' (h.imm b j v hv), h.len, fun b hb => by have := h.lt b hb; simp; omega, h.uniq, fun id b k hb hk => by
    obtain ⟨h1, h2, h3⟩ := h.blk id b k hb hk
    refine ⟨h1, h2, ?_⟩
    by_cases hck : ∃ cs, k = .cells cs
    rotate_left
    · exact BRel.stay (fun cs e => hck ⟨cs, e⟩) h3 (fun _ _ _ h => h) (fun _ _ h => h) (fun _ _ h _ => alloc_obj h)
    obtain ⟨cs, rfl⟩ := hck
    obtain ⟨arr, e, g1, g2, g6, g3⟩ := h3
    exact ⟨arr, e, (heap_alloc_lt (h.lt b (by rw [h1]; simp))).trans g1, g2, g6, fun j x v hx hv => ⟨(g3 j x v hx hv).1, (g3 j x v hx hv).2.more h o⟩⟩⟩
theorem Sim.more {o : Obj} (h : Sim c N ⟨F, H⟩ a w) : Sim c N ⟨F, H⟩ a (w.alloc o) :=
  ⟨h.inv.more o, h.size, h.defers, fun t x hx => by
    obtain ⟨v, hv, h1⟩ := h.fr t x hx
    exact ⟨v, hv, h1.more h.inv o⟩⟩
theorem Ext.more (c : Cx) (w : World) (o : Obj) : Ext c w c (w.alloc o) :=
  ⟨rfl, rfl, rfl, by simp, fun b hb h => ⟨heap_alloc_lt hb, h, fun _ => rfl⟩, fun _ _ _ h => h, fun _ _ h => h⟩

theorem Inv.lay {arr : Array Value} {cs : List V} {e : TypeId} (h : Inv c H w) (hc : RelL c.I c.φ cs arr.toList) (h1 : ∀ v ∈ arr.toList, v.oneCell' = true) : Inv (c.lay w.heap.size) (H ++ [.cells (cs.map .v)]) (w.alloc (.cells arr e)) := by
  refine ⟨fun b j v hv => cell_alloc' (h.imm b j v hv), by simp [Cx.lay, h.len], fun b hb => ?_, fun b b' r hb hb' => ?_, fun id b k hb hk => ?_⟩
  · unfold Cx.lay at hb
    by_cases hbs : b = w.heap.size
    · subst hbs; simp
    · simp only [hbs, if_false] at hb
      have := h.lt b hb
      simp; omega
  · unfold Cx.lay at hb hb'
    by_cases h1 : b = w.heap.size
    · simp [h1] at hb
    · by_cases h2 : b' = w.heap.size
      · simp [h2] at hb'
      · simp only [h1, h2, if_false] at hb hb'
        exact h.uniq b b' r hb hb'
  · rcases phi_lay hb with hb | ⟨rfl, rfl⟩
    · have hlt : id < H.length := by rw [← h.len]; exact (List.getElem?_eq_some_iff.1 hb).1
      rw [List.getElem?_append_left hlt] at hk
      obtain ⟨h4, h2, h3⟩ := h.blk id b k hb hk
      have hbl := h.lt b (by rw [h4]; simp)
      refine ⟨by simp [Cx.lay, Nat.ne_of_lt hbl, h4], h2, ?_⟩
      by_cases hck : ∃ cs, k = .cells cs
      rotate_left
      · exact BRel.stay (fun cs e => hck ⟨cs, e⟩) h3 (fun _ _ _ h => h) (fun _ _ h => lay_phi _ h) (fun _ _ h _ => alloc_obj h)
      obtain ⟨ks, rfl⟩ := hck
      obtain ⟨arr', e', g1, g2, g6, g3⟩ := h3
      exact ⟨arr', e', (heap_alloc_lt hbl).trans g1, g2, g6, fun j x v hx hv => ⟨(g3 j x v hx hv).1, (g3 j x v hx hv).2.lay h _⟩⟩
    · rw [h.len, List.getElem?_append_right (Nat.le_refl _)] at hk
      simp at hk
      subst hk
      refine ⟨by simp [Cx.lay], fun o => fresh_imm h _ o (Nat.le_refl _), arr, e, heap_alloc_new w _, ?_, h1, fun j x v hx hv => ?_⟩
      · have := hc.len
        simp at this ⊢
        exact this.symm
      · rw [List.getElem?_map] at hx
        cases hy : cs[j]? with
        | none => rw [hy] at hx; cases hx
        | some y =>
          rw [hy] at hx
          simp at hx
          subst hx
          refine ⟨rfl, ?_⟩
          obtain ⟨u, hu, hr⟩ := hc.get hy
          simp at hu
          rw [hv] at hu
          cases hu
          exact Rel.mono (fun _ _ _ h => h) (fun _ _ h => lay_phi _ h) hr
theorem Sim.lay {arr : Array Value} {cs : List V} {e : TypeId} (h : Sim c N ⟨F, H⟩ a w) (hc : RelL c.I c.φ cs arr.toList) (h1 : ∀ v ∈ arr.toList, v.oneCell' = true) : Sim (c.lay w.heap.size) N ⟨F, H ++ [.cells (cs.map .v)]⟩ a (w.alloc (.cells arr e)) :=
  ⟨h.inv.lay hc h1, h.size, h.defers, fun t x hx => by
    obtain ⟨v, hv, h1⟩ := h.fr t x hx
    exact ⟨v, hv, h1.lay h.inv _⟩⟩
theorem Ext.lay (c : Cx) (w : World) (o : Obj) : Ext c w (c.lay w.heap.size) (w.alloc o) :=
  ⟨rfl, rfl, rfl, by simp, fun b hb h => ⟨heap_alloc_lt hb, by simp [Cx.lay, Nat.ne_of_lt hb, h], fun _ => rfl⟩, fun _ _ _ h => h, fun _ _ h => lay_phi _ h⟩
theorem lay_ptr (h : Inv c H w) (b : Nat) : Rel (c.lay b).I (c.lay b).φ (.ptr H.length 0) (.pointer (some ⟨b, 0, none⟩)) :=
  .ptr (by rw [← h.len]; simp [Cx.lay])
end
end AM
end Go.Proofs.Ytmjnffjacgjfmaa
namespace Go.Proofs.Ytmjnffjacgjfmaa
set_option linter.all false
open Go.RowKit
namespace AM
section
variable {c : Cx} {N : Nat} {F : Fr} {H : List Bk} {a : Act} {w : World}

/-- What a root holds. -/
def rootSV (s : St) : Root → Option SV
  | .slot t => getF t s.F
  | .cell id j => match s.H[id]? with
    | some (.cells cs) => cs[j]?
    | _ => none

/-- The plain values at the head. -/
def plains : List SV → List V
  | .v x :: xs => x :: plains xs
  | _ => []

/-- What can be read from an address on. -/
def cellsAt (s : St) : SV → Option (List V)
  | .v (.rd cs) => some cs
  | .v (.ptr id off) => match s.H[id]? with
    | some (.cells ks) => some (plains (ks.drop off))
    | _ => none
  | .pth r off => match rootSV s r with
    | some (.own _ _ _ _ cs) => some (cs.drop off)
    | _ => none
  | _ => none

theorem plains_get : ∀ {xs : List SV} {j : Nat} {y : V}, (plains xs)[j]? = some y → xs[j]? = some (.v y)
  | [], j, y, h => by simp [plains] at h
  | x :: xs, j, y, h => by
    cases x with
    | v x =>
      cases j with
      | zero => simpa [plains] using h
      | succ j => simp only [plains, List.getElem?_cons_succ] at h; simpa using plains_get h
    | _ => simp [plains] at h

theorem Sim.root {s : St} {r : Root} {x : SV} (h : Sim c N s a w) (hx : rootSV s r = some x) : ∃ u, SRel c w r x u := by
  cases r with
  | slot t =>
    obtain ⟨v, _, hv⟩ := h.fr t x (mem_getF hx)
    exact ⟨v, hv⟩
  | cell id j =>
    simp only [rootSV] at hx
    cases hk : s.H[id]? with
    | none => rw [hk] at hx; cases hx
    | some k =>
      by_cases hck : ∃ cs, k = .cells cs
      rotate_left
      · rw [hk] at hx; cases k <;> first | exact absurd ⟨_, rfl⟩ hck | cases hx | exact hx.elim
      obtain ⟨cs, rfl⟩ := hck
      rw [hk] at hx
      have hlt : id < c.φ.length := by rw [h.inv.len]; exact (List.getElem?_eq_some_iff.1 hk).1
      obtain ⟨_, _, arr, e, g1, g2, _, g3⟩ := h.inv.blk id _ _ (List.getElem?_eq_getElem hlt) hk
      have hj : j < arr.size := by rw [g2]; exact (List.getElem?_eq_some_iff.1 hx).1
      exact ⟨_, (g3 j x _ hx (Array.getElem?_eq_getElem hj)).2⟩

/-- The concrete cells behind an address. -/
theorem read_cells {s : St} {p : SV} {r : Root} {v : Value} {cs : List V} (h : Sim c N s a w) (hp : SRel c w r p v) (hc : cellsAt s p = some cs) :
    ∃ b off vs, v = .pointer (some ⟨b, off, none⟩) ∧ RelL c.I c.φ cs vs ∧ (∀ j u, vs[j]? = some u → w.cell? ⟨b, off + j, none⟩ = some u) ∧ ∀ u ∈ vs, u.oneCell' = true := by
  unfold cellsAt at hc
  split at hc
  · rename_i cs'
    cases hc
    cases hp with
    | rd h1 h2 h3 => exact ⟨_, _, _, rfl, h1, fun j u hu => h.inv.imm _ _ _ (h2 j u hu), h3⟩
  · rename_i id off
    cases hk : s.H[id]? with
    | none => rw [hk] at hc; cases hc
    | some k =>
      by_cases hck : ∃ cs, k = .cells cs
      rotate_left
      · rw [hk] at hc; cases k <;> first | exact absurd ⟨_, rfl⟩ hck | cases hc | exact hc.elim
      obtain ⟨ks, rfl⟩ := hck
      rw [hk] at hc
      cases hc
      cases hp with
      | ptr hb =>
        rename_i b
        obtain ⟨_, _, arr, e, g1, g2, g6, g3⟩ := h.inv.blk id _ _ hb hk
        have hlen : (plains (ks.drop off)).length ≤ arr.size - off := by
          rw [g2]
          have : ∀ xs : List SV, (plains xs).length ≤ xs.length := by
            intro xs
            induction xs with
            | nil => simp [plains]
            | cons x xs ih => cases x <;> simp [plains] <;> omega
          have := this (ks.drop off)
          simpa using this
        refine ⟨b, off, (arr.toList.drop off).take (plains (ks.drop off)).length, rfl, ?_, fun j u hu => ?_, fun u hu => g6 u (List.mem_of_mem_drop (List.mem_of_mem_take hu))⟩
        · refine .of_get (by simp; omega) fun j x v hx hv => ?_
          have h1 := plains_get hx
          rw [List.getElem?_drop] at h1
          rw [List.getElem?_take] at hv
          split at hv
          · rw [List.getElem?_drop] at hv
            exact (g3 (off + j) _ v h1 (by simpa using hv)).2
          · cases hv
        · rw [List.getElem?_take] at hu
          split at hu
          · rw [List.getElem?_drop] at hu
            simp [World.cell?, g1]
            simpa using hu
          · cases hu
  · rename_i r' off
    cases hr : rootSV s r' with
    | none => rw [hr] at hc; cases hc
    | some x =>
      cases x with
      | own pr e n sz cs' =>
        rw [hr] at hc
        cases hc
        obtain ⟨b, rfl, hb⟩ := hp
        obtain ⟨u, h0, vs, h1, h2, h4, h3⟩ := h.root hr
        rcases h2.2 with ⟨rfl, rfl⟩ | ⟨g, cap, cur, rfl, _, g1, g2, g3, g6, g5⟩
        · have : vs = [] := List.eq_nil_of_length_eq_zero (by rw [h2.1]; simp)
          subst this
          cases h1
          exact ⟨b, off, [], rfl, by simpa using RelL.nil, fun j u hu => by simp at hu, fun u hu => by simp at hu⟩
        · have hgb : g = b := h.inv.uniq g b r' (h3 g rfl).1 hb
          subst hgb
          refine ⟨g, off, vs.drop off, rfl, h1.drop off, fun j u hu => ?_, fun u hu => h4 u (List.mem_of_mem_drop hu)⟩
          rw [List.getElem?_drop, ← g5, List.getElem?_take] at hu
          split at hu
          · simp [World.cell?, g1]
            simpa using hu
          · cases hu
      | _ => rw [hr] at hc; cases hc
  · cases hc

/-! ## Turning a cell of a numbered block -/
theorem heap_set_other {p : Addr} {u : Value} {k : Nat} (h : k ≠ p.block) : (w.setCell p u).heap[k]? = w.heap[k]? := Below.heap_setCell w p u k h
theorem heap_set_self {b o : Nat} {u : Value} {arr : Array Value} {e : TypeId} {fz : Nat × Nat} (h : w.heap[b]? = some (.cells arr e fz)) : (w.setCell ⟨b, o, none⟩ u).heap[b]? = some (.cells (arr.setIfInBounds o u) e fz) := by
  simp [World.setCell, Array.getElem?_modify, h]
theorem set_obj {p : Addr} {u : Value} {k : Nat} {o : Obj} (h : w.heap[k]? = some o) (ho : ∀ arr e f, o ≠ Obj.cells arr e f) : (w.setCell p u).heap[k]? = some o := by
  by_cases hk : k = p.block
  · subst hk
    simp only [World.setCell, Array.getElem?_modify, if_true]
    rw [h]
    cases o <;> first | rfl | exact absurd rfl (ho _ _ _)
  · rw [heap_set_other hk]; exact h
theorem size_set {p : Addr} {u : Value} : (w.setCell p u).heap.size = w.heap.size := by simp [World.setCell]

def setBlk (H : List Bk) (id j : Nat) (x : SV) : List Bk :=
  match H[id]? with
  | some (.cells cs) => H.set id (.cells (cs.set j x))
  | _ => H

theorem SRel.other {r : Root} {x : SV} {v u : Value} {b o : Nat} (hb : ∀ q, c.R b ≠ .own q) (h : SRel c w r x v) : SRel c (w.setCell ⟨b, o, none⟩ u) r x v :=
  SRel.mono (c := c) (w := w) (c' := c) (w' := w.setCell ⟨b, o, none⟩ u) (fun _ _ _ h => h) (fun _ _ h => h) (fun k q _ hk => ⟨hk, heap_set_other (by rintro rfl; exact hb q hk), fun _ => rfl⟩) h

/-- A cell of a numbered block is turned. -/
theorem Sim.store' {id j b : Nat} {cs : List SV} {x : SV} {v : Value} (h : Sim c N ⟨F, H⟩ a w) (hb : c.φ[id]? = some b) (hk : H[id]? = some (.cells cs)) (hf : x.flat = true) (hv1 : v.oneCell' = true) (hx : SRel c (w.setCell ⟨b, j, none⟩ v) (.cell id j) x v) :
    Sim c N ⟨F, H.set id (.cells (cs.set j x))⟩ a (w.setCell ⟨b, j, none⟩ v) := by
  obtain ⟨hr, hi, arr, e, g1, g2, g6, g3⟩ := h.inv.blk id b _ hb hk
  have hno : ∀ q, c.R b ≠ .own q := fun q => by rw [hr]; simp
  have hlt : id < H.length := (List.getElem?_eq_some_iff.1 hk).1
  refine ⟨⟨fun b' o' v' hv' => ?_, by simpa using h.inv.len, fun b' hb' => by rw [size_set]; exact h.inv.lt b' hb', h.inv.uniq, fun id' b' k hb' hk' => ?_⟩, h.size, h.defers, fun t y hy => ?_⟩
  · have hne : b' ≠ b := by rintro rfl; rw [hi] at hv'; cases hv'
    rw [World.cell?_of_block (a := ⟨b', o', none⟩) (heap_set_other (w := w) (p := ⟨b, j, none⟩) (u := v) hne)]
    exact h.inv.imm b' o' v' hv'
  · by_cases hid : id = id'
    · subst hid
      rw [hb] at hb'
      cases hb'
      rw [List.getElem?_set_self hlt] at hk'
      cases hk'
      refine ⟨hr, hi, _, e, heap_set_self g1, by simp [g2], fun u hu => ?_, fun i y u hy hu => ?_⟩
      · rw [Array.toList_setIfInBounds] at hu
        rcases List.mem_or_eq_of_mem_set hu with hu | rfl
        · exact g6 u hu
        · exact hv1
      rw [List.getElem?_set] at hy
      by_cases hij : j = i
      · subst hij
        simp only [if_true] at hy
        split at hy
        · cases hy
          rw [Array.getElem?_setIfInBounds] at hu
          simp only [if_true] at hu
          split at hu
          · cases hu
            exact ⟨hf, hx⟩
          · cases hu
        · cases hy
      · rw [if_neg hij] at hy
        rw [Array.getElem?_setIfInBounds, if_neg hij] at hu
        exact ⟨(g3 i y u hy hu).1, (g3 i y u hy hu).2.other hno⟩
    · have hk2 : H[id']? = some k := by
        have hh : (H.set id (Bk.cells (cs.set j x)))[id']? = some k := hk'
        rwa [List.getElem?_set_ne hid] at hh
      obtain ⟨k1, k2, k3⟩ := h.inv.blk id' b' k hb' hk2
      have hne : b' ≠ b := by
        rintro rfl
        rw [hr] at k1
        exact hid (by simpa using k1)
      refine ⟨k1, k2, ?_⟩
      by_cases hck : ∃ cs, k = .cells cs
      rotate_left
      · exact BRel.stay (fun cs e => hck ⟨cs, e⟩) k3 (fun _ _ _ h => h) (fun _ _ h => h) (fun _ _ h ho => set_obj h ho)
      obtain ⟨ks, rfl⟩ := hck
      obtain ⟨arr', e', f1, f2, f6, f3⟩ := k3
      exact ⟨arr', e', (heap_set_other (w := w) (p := ⟨b, j, none⟩) (u := v) hne).trans f1, f2, f6, fun i y u hy hu => ⟨(f3 i y u hy hu).1, (f3 i y u hy hu).2.other hno⟩⟩
  · obtain ⟨u, hu, h1⟩ := h.fr t y hy
    exact ⟨u, hu, h1.other hno⟩
theorem Sim.store {id j b : Nat} {cs : List SV} {x : V} {v : Value} (h : Sim c N ⟨F, H⟩ a w) (hb : c.φ[id]? = some b) (hk : H[id]? = some (.cells cs)) (hv1 : v.oneCell' = true) (hx : Rel c.I c.φ x v) :
    Sim c N ⟨F, H.set id (.cells (cs.set j (.v x)))⟩ a (w.setCell ⟨b, j, none⟩ v) := h.store' hb hk rfl hv1 hx
theorem Ext.store {b j : Nat} {v : Value} (c : Cx) (w : World) (hb : c.R b ≠ .out) : Ext c w c (w.setCell ⟨b, j, none⟩ v) :=
  ⟨rfl, rfl, rfl, by rw [size_set]; exact Nat.le_refl _, fun k hk h => ⟨heap_set_other (by rintro rfl; exact hb h), h, fun _ => rfl⟩, fun _ _ _ h => h, fun _ _ h => h⟩
end
end AM
end Go.Proofs.Ytmjnffjacgjfmaa
namespace Go.Proofs.Ytmjnffjacgjfmaa
set_option linter.all false
open Go.RowKit
namespace AM
section
variable {c : Cx} {N : Nat} {F : Fr} {H : List Bk} {a : Act} {w : World}

/-! ## A row is shared: its cells never turn from here on -/
def Cx.fix (c : Cx) (b : Nat) (vs : List Value) : Cx := { c with I := fun k o => if k = b then (match c.I k o with | some v => some v | none => vs[o]?) else c.I k o }
theorem fix_mono {b : Nat} {vs : List Value} : ∀ k o v, c.I k o = some v → (c.fix b vs).I k o = some v := by
  intro k o v h
  unfold Cx.fix
  by_cases hk : k = b
  · subst hk; simp [h]
  · simp [hk, h]
theorem fix_other {b k o : Nat} {vs : List Value} (h : k ≠ b) : (c.fix b vs).I k o = c.I k o := by simp [Cx.fix, h]

def setF (t : Nat) (x : SV) : Fr → Fr
  | [] => []
  | (k, y) :: F => bif k == t then (k, x) :: setF t x F else (k, y) :: setF t x F
theorem mem_setF {t k : Nat} {x y : SV} : ∀ {F : Fr}, (k, y) ∈ setF t x F → (k = t ∧ y = x) ∨ (k ≠ t ∧ (k, y) ∈ F)
  | [], h => by cases h
  | (j, z) :: F, h => by
    unfold setF at h
    cases hc : j == t with
    | true =>
      rw [hc] at h
      simp at hc
      subst hc
      simp only [cond_true, List.mem_cons, Prod.mk.injEq] at h
      rcases h with ⟨rfl, rfl⟩ | h
      · exact .inl ⟨rfl, rfl⟩
      · rcases mem_setF h with h | ⟨h1, h2⟩
        · exact .inl h
        · exact .inr ⟨h1, List.mem_cons_of_mem _ h2⟩
    | false =>
      rw [hc] at h
      simp at hc
      simp only [cond_false, List.mem_cons, Prod.mk.injEq] at h
      rcases h with ⟨rfl, rfl⟩ | h
      · exact .inr ⟨hc, by simp⟩
      · rcases mem_setF h with h | ⟨h1, h2⟩
        · exact .inl h
        · exact .inr ⟨h1, List.mem_cons_of_mem _ h2⟩

theorem SRel.fix {r : Root} {x : SV} {v : Value} {b : Nat} {vs : List Value} (h : SRel c w r x v) (hb : c.R b ≠ .own r) (hx : x.flat = true ∨ True) : SRel (c.fix b vs) w r x v := by
  cases x with
  | v x => exact Rel.mono fix_mono (fun _ _ h => h) h
  | own pr e n sz cs =>
    obtain ⟨h0, us, h1, h2, h4, h3⟩ := h
    refine ⟨h0, us, RelL.mono fix_mono (fun _ _ h => h) h1, h2, h4, fun g hg => ⟨(h3 g hg).1, fun o => ?_⟩⟩
    have hne : g ≠ b := by rintro rfl; exact hb (h3 g hg).1
    rw [fix_other hne]
    exact (h3 g hg).2 o
  | pth r' off => exact h
  | lnk r' n => exact h
  | any => trivial

theorem own_cell {base : Nat} {e sz n g : Nat} {u : Value} {vs : List Value} (h : w.ownsRow base e sz u n vs) (hg : u.ownBlock = some g) {o : Nat} {v : Value} (hv : vs[o]? = some v) : w.cell? ⟨g, o, none⟩ = some v := by
  rcases h.2 with ⟨rfl, _⟩ | ⟨g', cap, cur, rfl, _, h1, h2, h3, h4, h5⟩
  · cases hg
  · cases hg
    rw [← h5, List.getElem?_take] at hv
    split at hv
    · simp [World.cell?, h1]
      simpa using hv
    · cases hv

/-- The row that a root holds may be read by everybody from here on. -/
theorem Inv.fix {b : Nat} {vs : List Value} {r : Root} (h : Inv c H w) (hr : c.R b = .own r) (hv : ∀ o v, vs[o]? = some v → w.cell? ⟨b, o, none⟩ = some v)
    (hc : ∀ id j, r = .cell id j → Bare H (.cell id j)) : Inv (c.fix b vs) H w :=
  ⟨fun k o v hk => by
    unfold Cx.fix at hk
    by_cases hkb : k = b
    · subst hkb
      simp only [if_true] at hk
      cases hi : c.I k o with
      | none => rw [hi] at hk; exact hv o v hk
      | some u =>
        rw [hi] at hk
        cases hk
        exact h.imm k o _ hi
    · simp only [hkb, if_false] at hk
      exact h.imm k o v hk, h.len, h.lt, h.uniq, fun id k blk hk hblk => by
    obtain ⟨h1, h2, h3⟩ := h.blk id k blk hk hblk
    have hne : k ≠ b := by rintro rfl; rw [hr] at h1; cases h1
    refine ⟨h1, fun o => by rw [fix_other hne]; exact h2 o, ?_⟩
    by_cases hck : ∃ cs, blk = .cells cs
    rotate_left
    · exact BRel.stay (fun cs e => hck ⟨cs, e⟩) h3 (fix_mono) (fun _ _ h => h) (fun _ _ h _ => h)
    obtain ⟨cs, rfl⟩ := hck
    obtain ⟨arr, e, g1, g2, g6, g3⟩ := h3
    refine ⟨arr, e, g1, g2, g6, fun j x v hx hv => ?_⟩
    obtain ⟨g4, g5⟩ := g3 j x v hx hv
    refine ⟨g4, ?_⟩
    by_cases hrj : Root.cell id j = r
    · subst hrj
      rcases hc id j rfl cs hblk x hx with ⟨y, rfl⟩ | rfl
      · exact Rel.mono fix_mono (fun _ _ h => h) g5
      · trivial
    · exact g5.fix (by rw [hr]; simpa using Ne.symm hrj) (.inr trivial)⟩
theorem Ext.fix {b : Nat} {vs : List Value} (c : Cx) (w : World) (hb : c.R b ≠ .out) : Ext c w (c.fix b vs) w :=
  ⟨rfl, rfl, rfl, Nat.le_refl _, fun k hk h => ⟨rfl, h, fun o => fix_other (by rintro rfl; exact hb h)⟩, fix_mono, fun _ _ h => h⟩

/-- The row of slot t is shared. -/
theorem Sim.share {t : Nat} {pr : Bool} {e n sz : Nat} {cs : List V} (h : Sim c N ⟨F, H⟩ a w) (ht : getF t F = some (.own pr e n sz cs)) :
    ∃ c' u, a.tmps[t]? = some u ∧ Rel c'.I c'.φ (.sl n sz cs) u ∧ Sim c' N ⟨setF t (.own false e n sz cs) F, H⟩ a w ∧ Ext c w c' w := by
  obtain ⟨u, hu, h0, vs, h1, h2, h6, h3⟩ := h.fr t _ (mem_getF ht)
  rcases h2.2 with ⟨rfl, rfl⟩ | ⟨g, cap, cur, rfl, hb0, g1, g2, g3, g4, g5⟩
  · have hv : vs = [] := List.eq_nil_of_length_eq_zero (by rw [h2.1]; simp)
    subst hv
    cases h1
    refine ⟨c, _, hu, .sl0, ⟨h.inv, h.size, h.defers, fun k x hx => ?_⟩, Ext.refl c w⟩
    rcases mem_setF hx with ⟨rfl, rfl⟩ | ⟨_, hx⟩
    · exact ⟨_, hu, h0, [], .nil, h2, h6, fun b hb => by cases hb⟩
    · exact h.fr k x hx
  · obtain ⟨k1, k2⟩ := h3 g rfl
    have hcell : ∀ o v, vs[o]? = some v → w.cell? ⟨g, o, none⟩ = some v := fun o v hv => own_cell (g := g) h2 rfl hv
    refine ⟨c.fix g vs, _, hu, .sl (RelL.mono fix_mono (fun _ _ h => h) h1) (fun j v hv => ?_) (by rw [h1.len, h2.1]) g2 g3 h6,
      ⟨h.inv.fix k1 hcell (fun id j e => by cases e), h.size, h.defers, fun k x hx => ?_⟩, Ext.fix c w (by rw [k1]; simp)⟩
    · rw [Nat.zero_add]
      simp only [Cx.fix, if_true]
      rw [k2 j]
      cases pr <;> simp [hv]
    · rcases mem_setF hx with ⟨rfl, rfl⟩ | ⟨hne, hx⟩
      · refine ⟨_, hu, h0, vs, RelL.mono fix_mono (fun _ _ h => h) h1, h2, h6, fun b hb => ?_⟩
        cases hb
        refine ⟨k1, fun o => ?_⟩
        simp only [Cx.fix, if_true]
        rw [k2 o]
        cases pr
        · simp only [Bool.false_eq_true, if_false]
          cases vs[o]? <;> rfl
        · simp
      · obtain ⟨v, hv, hs⟩ := h.fr k x hx
        exact ⟨v, hv, hs.fix (by rw [k1]; simpa using Ne.symm hne) (.inr trivial)⟩

theorem setBlk_get {id j i : Nat} {x : SV} {cs : List SV} (hk : H[id]? = some (.cells cs)) : (setBlk H id j x)[i]? = if i = id then some (.cells (cs.set j x)) else H[i]? := by
  have hlt : id < H.length := (List.getElem?_eq_some_iff.1 hk).1
  unfold setBlk
  rw [hk]
  by_cases hi : i = id
  · subst hi; simp [hlt]
  · rw [if_neg hi]
    simp only
    rw [List.getElem?_set_ne (Ne.symm hi)]
theorem setBlk_len {id j : Nat} {x : SV} : (setBlk H id j x).length = H.length := by
  unfold setBlk
  split <;> simp

/-- The row of a cell is shared. -/
theorem Sim.shareCell {id j b : Nat} {ks : List SV} {pr : Bool} {e n sz : Nat} {cs : List V} (h : Sim c N ⟨F, H⟩ a w) (hb : c.φ[id]? = some b) (hk : H[id]? = some (.cells ks)) (ht : ks[j]? = some (.own pr e n sz cs)) :
    ∃ c' u, w.cell? ⟨b, j, none⟩ = some u ∧ Rel c'.I c'.φ (.sl n sz cs) u ∧ Sim c' N ⟨F, setBlk H id j (.own false e n sz cs)⟩ a w ∧ Ext c w c' w ∧ c'.R = c.R := by
  obtain ⟨hr, hi, arr, e', q1, q2, q6, q3⟩ := h.inv.blk id b _ hb hk
  have hj : j < arr.size := by rw [q2]; exact (List.getElem?_eq_some_iff.1 ht).1
  obtain ⟨_, h0, vs, h1, h2, h6, h3⟩ := q3 j _ _ ht (Array.getElem?_eq_getElem hj)
  have hu : w.cell? ⟨b, j, none⟩ = some arr[j] := by simp [World.cell?, q1, hj]
  generalize arr[j] = u at *
  rcases h2.2 with ⟨rfl, rfl⟩ | ⟨g, cap, cur, rfl, hb0, g1, g2, g3, g4, g5⟩
  · have hv : vs = [] := List.eq_nil_of_length_eq_zero (by rw [h2.1]; simp)
    subst hv
    cases h1
    refine ⟨c, _, hu, .sl0, ⟨⟨h.inv.imm, by rw [setBlk_len]; exact h.inv.len, h.inv.lt, h.inv.uniq, fun id' b' k hb' hk' => ?_⟩, h.size, h.defers, h.fr⟩, Ext.refl c w, rfl⟩
    rw [setBlk_get hk] at hk'
    by_cases hid : id' = id
    · subst hid
      rw [if_pos rfl] at hk'
      cases hk'
      rw [hb] at hb'
      cases hb'
      refine ⟨hr, hi, arr, e', q1, by simp [q2], q6, fun i y v hy hv => ?_⟩
      rw [List.getElem?_set] at hy
      by_cases hij : j = i
      · subst hij
        simp only [if_true] at hy
        split at hy
        · cases hy
          have : v = .slice none 0 0 := by
            have h5 : w.cell? ⟨b, j, none⟩ = some v := by simp [World.cell?, q1, hv]
            rw [hu] at h5
            cases h5
            rfl
          subst this
          exact ⟨rfl, h0, [], .nil, h2, h6, fun b hb => by cases hb⟩
        · cases hy
      · rw [if_neg hij] at hy
        exact q3 i y v hy hv
    · rw [if_neg hid] at hk'
      exact h.inv.blk id' b' k hb' hk'
  · obtain ⟨k1, k2⟩ := h3 g rfl
    have hcell : ∀ o v, vs[o]? = some v → w.cell? ⟨g, o, none⟩ = some v := fun o v hv => own_cell (g := g) h2 rfl hv
    have hfix : ∀ o, (c.fix g vs).I g o = vs[o]? := fun o => by
      simp only [Cx.fix, if_true]
      rw [k2 o]
      cases pr
      · simp only [Bool.false_eq_true, if_false]
        cases vs[o]? <;> rfl
      · simp
    refine ⟨c.fix g vs, _, hu, .sl (RelL.mono fix_mono (fun _ _ h => h) h1) (fun j v hv => by rw [Nat.zero_add, hfix]; exact hv) (by rw [h1.len, h2.1]) g2 g3 h6,
      ⟨⟨fun k o v hk => ?_, by rw [setBlk_len]; exact h.inv.len, h.inv.lt, h.inv.uniq, fun id' b' k hb' hk' => ?_⟩, h.size, h.defers, fun k x hx => ?_⟩, Ext.fix c w (by rw [k1]; simp), rfl⟩
    · by_cases hkg : k = g
      · subst hkg
        rw [hfix] at hk
        exact hcell o v hk
      · rw [fix_other hkg] at hk
        exact h.inv.imm k o v hk
    · rw [setBlk_get hk] at hk'
      by_cases hid : id' = id
      · subst hid
        rw [if_pos rfl] at hk'
        cases hk'
        rw [show (c.fix g vs).φ = c.φ from rfl, hb] at hb'
        cases hb'
        have hne : b ≠ g := by rintro rfl; rw [hr] at k1; cases k1
        refine ⟨hr, fun o => by rw [fix_other hne]; exact hi o, arr, e', q1, by simp [q2], q6, fun i y v hy hv => ?_⟩
        rw [List.getElem?_set] at hy
        by_cases hij : j = i
        · subst hij
          simp only [if_true] at hy
          split at hy
          · cases hy
            have : v = .slice (some ⟨g, 0, none⟩) n cap := by
              have h5 : w.cell? ⟨b, j, none⟩ = some v := by simp [World.cell?, q1, hv]
              rw [hu] at h5
              cases h5
              rfl
            subst this
            refine ⟨rfl, h0, vs, RelL.mono fix_mono (fun _ _ h => h) h1, h2, h6, fun b' hb' => ?_⟩
            cases hb'
            exact ⟨k1, fun o => by rw [hfix]; simp⟩
          · cases hy
        · rw [if_neg hij] at hy
          obtain ⟨f1, f2⟩ := q3 i y v hy hv
          exact ⟨f1, f2.fix (by rw [k1]; simpa using hij) (.inr trivial)⟩
      · rw [if_neg hid] at hk'
        obtain ⟨f1, f2, f3⟩ := h.inv.blk id' b' k hb' hk'
        have hne : b' ≠ g := by rintro rfl; rw [f1] at k1; cases k1
        refine ⟨f1, fun o => by rw [fix_other hne]; exact f2 o, ?_⟩
        by_cases hck : ∃ cs, k = .cells cs
        rotate_left
        · exact BRel.stay (fun cs e => hck ⟨cs, e⟩) f3 (fix_mono) (fun _ _ h => h) (fun _ _ h _ => h)
        obtain ⟨cs', rfl⟩ := hck
        obtain ⟨arr', e'', p1, p2, p6, p3⟩ := f3
        refine ⟨arr', e'', p1, p2, p6, fun i y v hy hv => ?_⟩
        obtain ⟨f4, f5⟩ := p3 i y v hy hv
        exact ⟨f4, f5.fix (by
          rw [k1]
          intro e
          cases e
          exact hid rfl) (.inr trivial)⟩
    · obtain ⟨v, hv, hs⟩ := h.fr k x hx
      exact ⟨v, hv, hs.fix (by rw [k1]; simp) (.inr trivial)⟩
end
end AM
end Go.Proofs.Ytmjnffjacgjfmaa
namespace Go.Proofs.Ytmjnffjacgjfmaa
set_option linter.all false
open Go.RowKit
namespace AM
section
variable {c : Cx} {N : Nat} {F : Fr} {H : List Bk} {a : Act} {w : World}

theorem own_nil {c : Cx} {w : World} {r : Root} {pr : Bool} {e sz : Nat} (h : 0 < sz) : SRel c w r (.own pr e 0 sz []) (.slice none 0 0) :=
  ⟨h, [], .nil, ⟨by simp, .inl ⟨rfl, rfl⟩⟩, fun u hu => by simp at hu, fun b hb => by cases hb⟩
theorem nil_of {vs : List Value} {cs : List V} {I : Nat → Nat → Option Value} {φ : List Nat} {base : Nat} {e sz : Nat} (h1 : RelL I φ cs vs) (h2 : w.ownsRow base e sz (.slice none 0 0) 0 vs) : cs = [] ∧ vs = [] := by
  have hv : vs = [] := List.eq_nil_of_length_eq_zero (by rw [h2.1]; simp)
  subst hv
  cases h1
  exact ⟨rfl, rfl⟩

/-- A row goes from slot u to slot t. -/
theorem Sim.hand {t u : Nat} {pr : Bool} {e n sz : Nat} {cs : List V} (h : Sim c N ⟨F, H⟩ a w) (hu : getF u F = some (.own pr e n sz cs)) (ht : t < N) :
    ∃ c' v, a.tmps[u]? = some v ∧ Sim c' N ⟨putF t (.own pr e n sz cs) (del u F), H⟩ (a.put (some t) v) w ∧ Ext c w c' w := by
  obtain ⟨v, hv, h0, vs, h1, h2, h6, h3⟩ := h.fr u _ (mem_getF hu)
  have hd : Sim c N ⟨del u F, H⟩ a w := h.sub fun p hp => (mem_del (x := p.2) (k := p.1) hp).1
  rcases h2.2 with ⟨rfl, rfl⟩ | ⟨g, cap, cur, rfl, hb0, g1, g2, g3, g4, g5⟩
  · obtain ⟨rfl, rfl⟩ := nil_of h1 h2
    exact ⟨_, _, hv, hd.put' ht (own_nil h0), Ext.free c w _⟩
  · obtain ⟨k1, k2⟩ := h3 g rfl
    have hlt := h.inv.lt g (by rw [k1]; simp)
    refine ⟨_, _, hv, hd.put_own ht hlt (fun id => by rw [k1]; simp) (fun id j => by rw [k1]; simp) (fun k x hx => ?_) ?_, Ext.give c w (fun _ => by rw [k1]; simp)⟩
    · have h5 := mem_del (mem_del hx).1
      refine ⟨by rw [k1]; simpa using Ne.symm h5.2.1, fun q hq => ?_⟩
      rw [k1] at hq
      cases hq
      exact h5.2.2
    · refine ⟨h0, vs, h1, h2, h6, fun b hb => ?_⟩
      cases hb
      exact ⟨give_self, k2⟩

/-! ## In place -/
theorem own_set {base e sz n g o : Nat} {u v : Value} {vs : List Value} (h : w.ownsRow base e sz u n vs) (hg : u.ownBlock = some g) (ho : o < vs.length) : (w.setCell ⟨g, o, none⟩ v).ownsRow base e sz u n (vs.set o v) := by
  rcases h.2 with ⟨rfl, _⟩ | ⟨g', cap, cur, rfl, hb, h1, h2, h3, h4, h5⟩
  · cases hg
  · cases hg
    refine ⟨by rw [List.length_set]; exact h.1, .inr ⟨g', cap, cur.setIfInBounds o v, rfl, hb, heap_set_self h1, h2, h3, by simpa using h4, ?_⟩⟩
    rw [Array.toList_setIfInBounds, List.take_set, h5]

theorem SRel.apart {r : Root} {x : SV} {v u : Value} {b o : Nat} {q : Root} (hb : c.R b = .own q) (hr : r ≠ q) (h : SRel c w r x v) : SRel c (w.setCell ⟨b, o, none⟩ u) r x v := by
  cases x with
  | v x => exact h
  | own pr e n sz cs =>
    obtain ⟨h0, vs, h1, h2, h6, h3⟩ := h
    refine ⟨h0, vs, h1, own_keep h2 fun g hg => heap_set_other (by
      rintro rfl
      have := (h3 _ hg).1
      rw [hb] at this
      cases this
      exact hr rfl), h6, h3⟩
  | pth r' off => exact h
  | lnk r' n => exact h
  | any => trivial

theorem Inv.poke {g o : Nat} {v : Value} {q : Root} (h : Inv c H w) (hg : c.R g = .own q) (hi : ∀ o, c.I g o = none) (hq : ∀ id j, q = .cell id j → Bare H (.cell id j)) : Inv c H (w.setCell ⟨g, o, none⟩ v) := by
  refine ⟨fun b o' u hu => ?_, h.len, fun b hb => by rw [size_set]; exact h.lt b hb, h.uniq, fun id b k hb hk => ?_⟩
  · have hne : b ≠ g := by rintro rfl; rw [hi] at hu; cases hu
    rw [World.cell?_of_block (a := ⟨b, o', none⟩) (heap_set_other (w := w) (p := ⟨g, o, none⟩) (u := v) hne)]
    exact h.imm b o' u hu
  · obtain ⟨h1, h2, h3⟩ := h.blk id b k hb hk
    have hne : b ≠ g := by rintro rfl; rw [hg] at h1; cases h1
    refine ⟨h1, h2, ?_⟩
    by_cases hck : ∃ cs, k = .cells cs
    rotate_left
    · exact BRel.stay (fun cs e => hck ⟨cs, e⟩) h3 (fun _ _ _ h => h) (fun _ _ h => h) (fun _ _ h ho => set_obj h ho)
    obtain ⟨cs, rfl⟩ := hck
    obtain ⟨arr, e, g1, g2, g6, g3⟩ := h3
    refine ⟨arr, e, (heap_set_other (w := w) (p := ⟨g, o, none⟩) (u := v) hne).trans g1, g2, g6, fun j x u hx hu => ?_⟩
    obtain ⟨g4, g5⟩ := g3 j x u hx hu
    refine ⟨g4, ?_⟩
    by_cases hrj : Root.cell id j = q
    · rcases hq id j hrj.symm cs hk x hx with ⟨y, rfl⟩ | rfl
      · exact g5
      · trivial
    · exact g5.apart hg hrj

/-- A cell of the row of slot t is turned. -/
theorem Sim.poke {t e n sz o : Nat} {cs : List V} {x : V} {b : Nat} {v : Value} (h : Sim c N ⟨F, H⟩ a w) (ht : getF t F = some (.own true e n sz cs)) (hb : c.R b = .own (.slot t)) (ho : o < cs.length) (hv1 : v.oneCell' = true) (hx : Rel c.I c.φ x v) :
    Sim c N ⟨setF t (.own true e n sz (cs.set o x)) F, H⟩ a (w.setCell ⟨b, o, none⟩ v) ∧ Ext c w c (w.setCell ⟨b, o, none⟩ v) := by
  obtain ⟨u, hu, h0, vs, h1, h2, h6, h3⟩ := h.fr t _ (mem_getF ht)
  have hblk : u.ownBlock = some b := by
    rcases h2.2 with ⟨rfl, rfl⟩ | ⟨g, cap, cur, rfl, _⟩
    · obtain ⟨rfl, rfl⟩ := nil_of h1 h2
      simp at ho
    · have := h.inv.uniq g b _ (h3 g rfl).1 hb
      subst this
      rfl
  obtain ⟨_, k2⟩ := h3 b hblk
  refine ⟨⟨h.inv.poke hb (fun o => by rw [k2]; rfl) (fun _ _ e => by cases e), h.size, h.defers, fun k y hy => ?_⟩, Ext.store c w (by rw [hb]; simp)⟩
  rcases mem_setF hy with ⟨rfl, rfl⟩ | ⟨hne, hy⟩
  · refine ⟨u, hu, h0, vs.set o v, h1.set o hx, own_set h2 hblk (by rw [← h1.len]; exact ho), fun u hu => (List.mem_or_eq_of_mem_set hu).elim (h6 u) (fun e => e ▸ hv1), fun b' hb' => ?_⟩
    obtain ⟨k3, k4⟩ := h3 b' hb'
    exact ⟨k3, fun o => by rw [k4]; rfl⟩
  · obtain ⟨u', hu', hs⟩ := h.fr k y hy
    exact ⟨u', hu', hs.apart hb (by simpa using hne)⟩

/-! ## Laid -/
theorem Ext.laid (c : Cx) (w : World) (o : Obj) (r : Root) : Ext c w (c.give w.heap.size r) (w.alloc o) :=
  ⟨rfl, rfl, rfl, by simp, fun k hk hr => ⟨heap_alloc_lt hk, by simp [Cx.give, Nat.ne_of_lt hk, hr], fun _ => rfl⟩, fun _ _ _ h => h, fun _ _ h => h⟩
/-- A new row for slot t. -/
theorem Sim.layOwn {t : Nat} {e n cap sz : Nat} {arr : Array Value} {cs : List V} (h : Sim c N ⟨F, H⟩ a w) (ht : t < N) (hsz : 0 < sz) (hc : RelL c.I c.φ cs (arr.toList.take (n * sz))) (hn : n ≤ cap) (hm : cap ≤ maxLen) (hs : arr.size = cap * sz) (hv1 : ∀ v ∈ arr.toList, v.oneCell' = true) :
    Sim (c.give w.heap.size (.slot t)) N ⟨putF t (.own true e n sz cs) F, H⟩ (a.put (some t) (.slice (some ⟨w.heap.size, 0, none⟩) n cap)) (w.alloc (.cells arr e)) ∧ Ext c w (c.give w.heap.size (.slot t)) (w.alloc (.cells arr e)) := by
  have hout := fresh_out h.inv
  have h1 : Sim c N ⟨F, H⟩ a (w.alloc (.cells arr e)) := h.more
  refine ⟨h1.put_own ht (by simp) (fun id => by rw [hout]; simp) (fun id j => by rw [hout]; simp) (fun k x hx => ⟨by rw [hout]; simp, fun q hq => by rw [hout] at hq; cases hq⟩) ?_,
    Ext.laid c w _ _⟩
  · refine ⟨hsz, _, hc, ⟨?_, .inr ⟨w.heap.size, cap, arr, rfl, Nat.zero_le _, heap_alloc_new w _, hn, hm, hs, rfl⟩⟩, fun u hu => hv1 u (List.mem_of_mem_take hu), fun b hb => ?_⟩
    · have : n * sz ≤ cap * sz := Nat.mul_le_mul_right _ hn
      rw [List.length_take, Nat.min_eq_left]
      simpa [hs] using this
    · cases hb
      exact ⟨give_self, fun o => by rw [if_pos rfl]; exact fresh_imm h.inv _ o (Nat.le_refl _)⟩

/-! ## Grown -/
theorem Inv.grown {w' : World} {row : Option Nat} (h : Inv c H w) (hg : w.grownBy w' row) (hrow : ∀ g, row = some g → ∃ t, c.R g = .own (.slot t)) (hk : ∀ g, row = some g → ∀ o v, c.I g o = some v → w'.cell? ⟨g, o, none⟩ = some v) (hcl : ∀ g, row = some g → ∃ arr e f, w.heap[g]? = some (.cells arr e f)) : Inv c H w' := by
  have hM : ∀ (b' : Nat) (o : Obj), w.heap[b']? = some o → (∀ arr e f, o ≠ Obj.cells arr e f) → w'.heap[b']? = some o := fun b' o hb ho => (hg.block b' (obj_lt hb) (fun e => by
    obtain ⟨arr, t, f, hc⟩ := hcl b' e.symm
    rw [hb] at hc
    cases hc
    exact ho _ _ _ rfl)).trans hb
  have hne : ∀ b, b < w.heap.size → (∀ t, c.R b ≠ .own (.slot t)) → w'.heap[b]? = w.heap[b]? := fun b hb hr => hg.block b hb (fun e => by
    obtain ⟨t, ht⟩ := hrow b e.symm
    exact hr t ht)
  refine ⟨fun b o v hv => ?_, h.len, fun b hb => Nat.lt_of_lt_of_le (h.lt b hb) hg.size, h.uniq, fun id b k hb hk' => ?_⟩
  · by_cases hr : row = some b
    · exact hk b hr o v hv
    · rw [World.cell?_of_block (a := ⟨b, o, none⟩) (hg.block b (World.block_lt_of_cell? w _ (h.imm b o v hv)) (Ne.symm hr))]
      exact h.imm b o v hv
  · obtain ⟨h1, h2, h3⟩ := h.blk id b k hb hk'
    refine ⟨h1, h2, ?_⟩
    have hbl := h.lt b (by rw [h1]; simp)
    by_cases hck : ∃ cs, k = .cells cs
    rotate_left
    · exact BRel.stay (fun cs e => hck ⟨cs, e⟩) h3 (fun _ _ _ h => h) (fun _ _ h => h) (hM)
    obtain ⟨cs, rfl⟩ := hck
    obtain ⟨arr, e, g1, g2, g6, g3⟩ := h3
    refine ⟨arr, e, (hne b hbl (fun t => by rw [h1]; simp)).trans g1, g2, g6, fun j x v hx hv => ⟨(g3 j x v hx hv).1, ?_⟩⟩
    exact SRel.mono (c := c) (c' := c) (w := w) (w' := w') (fun _ _ _ h => h) (fun _ _ h => h) (fun b' q hq hb' => ⟨hb', hne b' (h.lt b' (by rw [hb']; simp)) (fun t e => by
      rw [hb'] at e
      cases e
      rcases hq with hq | hq
      · cases hq
      · rw [flat_refers (g3 j x v hx hv).1] at hq; cases hq), fun _ => rfl⟩) (g3 j x v hx hv).2

/-- append: the row of slot u (or none) grows and comes to slot t. -/
theorem Sim.grow {t u : Nat} {pr : Bool} {e n m sz : Nat} {cs ds : List V} {v v' : Value} {vs ns : List Value} {w' : World} (h : Sim c N ⟨F, H⟩ a w) (ht : t < N) (h0 : 0 < sz)
    (hu : ∀ k x, (k, x) ∈ F → k ≠ u ∧ x.refers (.slot u) = false) (h1 : RelL c.I c.φ cs vs) (h2 : w.ownsRow 0 e sz v n vs) (h3 : ∀ b, v.ownBlock = some b → c.R b = .own (.slot u) ∧ ∀ o, c.I b o = if pr then none else vs[o]?)
    (hd : RelL c.I c.φ ds ns) (hv1 : ∀ x ∈ vs ++ ns, x.oneCell' = true) (h4 : w'.ownsRow 0 e sz v' (n + m) (vs ++ ns)) (hg : w.grownBy w' v.ownBlock) (hat : v'.ownBlock = v.ownBlock ∨ v'.ownBlock = some w.heap.size)
    (hold : ∀ g, v.ownBlock = some g → ∀ o x, vs[o]? = some x → w'.cell? ⟨g, o, none⟩ = some x) :
    ∃ c', Sim c' N ⟨putF t (.own pr e (n + m) sz (cs ++ ds)) F, H⟩ (a.put (some t) v') w' ∧ Ext c w c' w' := by
  have hI : ∀ g, v.ownBlock = some g → ∀ o x, c.I g o = some x → w'.cell? ⟨g, o, none⟩ = some x := fun g hgv o x hx => by
    rw [(h3 g hgv).2] at hx
    cases pr
    · exact hold g hgv o x (by simpa using hx)
    · simp at hx
  have i1 : Inv c H w' := h.inv.grown hg (fun g hg => ⟨u, (h3 g hg).1⟩) hI (fun g hgv => by
    rcases h2.2 with ⟨rfl, _⟩ | ⟨g', cap, cur, rfl, _, g1, _⟩
    · cases hgv
    · cases hgv; exact ⟨_, _, _, g1⟩)
  have s1 : Sim c N ⟨F, H⟩ a w' := ⟨i1, h.size, h.defers, fun k x hx => by
    obtain ⟨y, hy, hs⟩ := h.fr k x hx
    refine ⟨y, hy, SRel.mono (c := c) (c' := c) (w := w) (w' := w') (fun _ _ _ h => h) (fun _ _ h => h) (fun b q hq hb => ⟨hb, hg.block b (h.inv.lt b (by rw [hb]; simp)) (fun e => ?_), fun _ => rfl⟩) hs⟩
    have := (h3 b e.symm).1
    rw [hb] at this
    cases this
    obtain ⟨g1, g2⟩ := hu k x hx
    rcases hq with hq | hq
    · cases hq; exact g1 rfl
    · rw [g2] at hq; cases hq⟩
  have x1 : Ext c w c w' := ⟨hg.os, hg.tape, hg.output, hg.size, fun b hb hr => ⟨hg.block b hb (fun e => by rw [(h3 b e.symm).1] at hr; cases hr), hr, fun _ => rfl⟩, fun _ _ _ h => h, fun _ _ h => h⟩
  rcases h4.2 with ⟨rfl, hz⟩ | ⟨g, cap, cur, rfl, _, g1, g2, g3, g4, g5⟩
  · have hn : n = 0 := by omega
    have hm : m = 0 := by omega
    subst hn hm
    have e1 : vs = [] := List.eq_nil_of_length_eq_zero (by rw [h2.1]; simp)
    have e2 : vs ++ ns = [] := List.eq_nil_of_length_eq_zero (by rw [h4.1]; simp)
    subst e1
    simp at e2
    subst e2
    cases h1
    cases hd
    exact ⟨_, s1.put' ht (own_nil h0), x1.trans (Ext.free c w' _)⟩
  · have hgl : g < w'.heap.size := Blk.lt (t := e) g1
    have hrole : c.R g = .own (.slot u) ∨ c.R g = .out := by
      rcases hat with e | e
      · exact .inl (h3 g e.symm).1
      · have : g = w.heap.size := by simpa [Value.ownBlock] using e
        subst this
        exact .inr (fresh_out h.inv)
    have hp : Sim (c.give g (.slot t)) N ⟨putF t .any F, H⟩ (a.put (some t) (.slice (some ⟨g, 0, none⟩) (n + m) cap)) w' := by
      have hi : Inv (c.give g (.slot t)) H w' := i1.give hgl trivial (fun id e => by rcases hrole with h | h <;> rw [h] at e <;> cases e) (fun id j e => by rcases hrole with h | h <;> rw [h] at e <;> cases e)
      refine ⟨hi, by simpa [Act.put] using h.size, h.defers, fun k y hy => ?_⟩
      unfold putF at hy
      simp only [List.mem_cons, Prod.mk.injEq] at hy
      rcases hy with ⟨rfl, rfl⟩ | hy
      · exact ⟨_, by simp [Act.put, Array.getElem?_setIfInBounds, h.size, ht]; rfl, trivial⟩
      · obtain ⟨q1, q2, q3⟩ := mem_del hy
        obtain ⟨z, hz, hs⟩ := s1.fr k y q1
        obtain ⟨f1, f2⟩ := hu k y q1
        refine ⟨z, by simpa [Act.put, Array.getElem?_setIfInBounds, Ne.symm q2] using hz, hs.give (fun q hq e => ?_) (by simpa using q2) q3⟩
        rcases hrole with hr | hr
        · rw [hr] at e
          cases e
          rcases hq with hq | hq
          · cases hq; exact f1 rfl
          · rw [f2] at hq; cases hq
        · rw [hr] at e; cases e
    have hx : Ext c w' (c.give g (.slot t)) w' ∨ c.R g = .out := by
      rcases hrole with hr | hr
      · exact .inl (Ext.give c w' (fun _ => by rw [hr]; simp))
      · exact .inr hr
    have x2 : Ext c w (c.give g (.slot t)) w' := by
      rcases hx with hx | hr
      · exact x1.trans hx
      · refine ⟨hg.os, hg.tape, hg.output, hg.size, fun b hb hrb => ?_, fun _ _ _ h => h, fun _ _ h => h⟩
        have hbg : b ≠ g := by
          rintro rfl
          rcases hat with e | e
          · rw [(h3 b e.symm).1] at hr; cases hr
          · have : b = w.heap.size := by simpa [Value.ownBlock] using e
            omega
        exact ⟨(x1.out b hb hrb).1, by simp [Cx.give, hbg, hrb], fun _ => rfl⟩
    have hcell : ∀ o x, (vs ++ ns)[o]? = some x → w'.cell? ⟨g, o, none⟩ = some x := fun o x hx => own_cell (g := g) h4 rfl hx
    have hIg : ∀ o x, c.I g o = some x → (vs ++ ns)[o]? = some x := fun o x hx => by
      rcases hat with e | e
      · rw [(h3 g e.symm).2] at hx
        cases pr
        · simp only [Bool.false_eq_true, if_false] at hx
          rw [List.getElem?_append_left (List.getElem?_eq_some_iff.1 hx).1]
          exact hx
        · simp at hx
      · have : g = w.heap.size := by simpa [Value.ownBlock] using e
        subst this
        rw [fresh_imm h.inv _ o (Nat.le_refl _)] at hx
        cases hx
    cases pr with
    | true =>
      refine ⟨_, ⟨hp.inv, hp.size, hp.defers, fun k y hy => ?_⟩, x2⟩
      unfold putF at hy
      simp only [List.mem_cons, Prod.mk.injEq] at hy
      rcases hy with ⟨rfl, rfl⟩ | hy
      · obtain ⟨z, hz, _⟩ := hp.fr k .any (by simp [putF])
        have : z = .slice (some ⟨g, 0, none⟩) (n + m) cap := by
          simp [Act.put, Array.getElem?_setIfInBounds, h.size, ht] at hz
          exact hz.symm
        subst this
        refine ⟨_, hz, h0, vs ++ ns, h1.append hd, h4, hv1, fun b hb => ?_⟩
        cases hb
        refine ⟨give_self, fun o => ?_⟩
        rcases hat with e | e
        · have := (h3 g e.symm).2 o
          show c.I g o = _
          simpa using this
        · have : g = w.heap.size := by simpa [Value.ownBlock] using e
          subst this
          rw [if_pos rfl]
          exact fresh_imm h.inv _ o (Nat.le_refl _)
      · exact hp.fr k y (by unfold putF; exact List.mem_cons_of_mem _ hy)
    | false =>
      have hfix : ∀ o, ((c.give g (.slot t)).fix g (vs ++ ns)).I g o = (vs ++ ns)[o]? := fun o => by
        simp only [Cx.fix, if_true]
        show (match c.I g o with | some v => some v | none => (vs ++ ns)[o]?) = _
        cases hi : c.I g o with
        | none => rfl
        | some x => rw [hIg o x hi]
      refine ⟨(c.give g (.slot t)).fix g (vs ++ ns), ⟨hp.inv.fix give_self hcell (fun id j e => by cases e), hp.size, hp.defers, fun k y hy => ?_⟩, x2.trans ⟨rfl, rfl, rfl, Nat.le_refl _, fun b hb hr => ⟨rfl, hr, fun o => fix_other (by rintro rfl; rw [give_self] at hr; cases hr)⟩, fix_mono, fun _ _ h => h⟩⟩
      unfold putF at hy
      simp only [List.mem_cons, Prod.mk.injEq] at hy
      rcases hy with ⟨rfl, rfl⟩ | hy
      · obtain ⟨z, hz, _⟩ := hp.fr k .any (by simp [putF])
        have : z = .slice (some ⟨g, 0, none⟩) (n + m) cap := by
          simp [Act.put, Array.getElem?_setIfInBounds, h.size, ht] at hz
          exact hz.symm
        subst this
        refine ⟨_, hz, h0, vs ++ ns, RelL.mono fix_mono (fun _ _ h => h) (h1.append hd), h4, hv1, fun b hb => ?_⟩
        cases hb
        exact ⟨give_self, fun o => by rw [hfix]; simp⟩
      · obtain ⟨z, hz, hs⟩ := hp.fr k y (by unfold putF; exact List.mem_cons_of_mem _ hy)
        exact ⟨z, hz, hs.fix (by rw [give_self]; simpa using Ne.symm (mem_del hy).2.1) (.inr trivial)⟩
end
end AM
end Go.Proofs.Ytmjnffjacgjfmaa
namespace Go.Proofs.Ytmjnffjacgjfmaa
set_option linter.all false
open Go.RowKit
namespace AM
section
variable {c : Cx} {N : Nat} {F : Fr} {H : List Bk} {a : Act} {w : World}

theorem setBlk_eq' {id j : Nat} {x : SV} {cs : List SV} (hk : H[id]? = some (.cells cs)) : setBlk H id j x = H.set id (.cells (cs.set j x)) := by
  unfold setBlk
  rw [hk]

/-- A cell of which nothing is said any more. -/
theorem Inv.dim {id j : Nat} {ks : List SV} (h : Inv c H w) (hk : H[id]? = some (.cells ks)) : Inv c (setBlk H id j .any) w := by
  refine ⟨h.imm, by rw [setBlk_len]; exact h.len, h.lt, h.uniq, fun id' b k hb hk' => ?_⟩
  rw [setBlk_get hk] at hk'
  by_cases hid : id' = id
  · subst hid
    rw [if_pos rfl] at hk'
    cases hk'
    obtain ⟨h1, h2, arr, e, g1, g2, g6, g3⟩ := h.blk id' b _ hb hk
    refine ⟨h1, h2, arr, e, g1, by simp [g2], g6, fun i x v hx hv => ?_⟩
    rw [List.getElem?_set] at hx
    by_cases hij : j = i
    · subst hij
      simp only [if_true] at hx
      split at hx
      · cases hx
        exact ⟨rfl, trivial⟩
      · cases hx
    · rw [if_neg hij] at hx
      exact g3 i x v hx hv
  · rw [if_neg hid] at hk'
    exact h.blk id' b k hb hk'
theorem Sim.dim {id j : Nat} {ks : List SV} (h : Sim c N ⟨F, H⟩ a w) (hk : H[id]? = some (.cells ks)) : Sim c N ⟨F, setBlk H id j .any⟩ a w := ⟨h.inv.dim hk, h.size, h.defers, h.fr⟩
theorem bare_dim {id j : Nat} {ks : List SV} (hk : H[id]? = some (.cells ks)) : Bare (setBlk H id j .any) (.cell id j) := by
  intro cs hc x hx
  rw [setBlk_get hk, if_pos rfl] at hc
  cases hc
  rw [List.getElem?_set] at hx
  simp only [if_true] at hx
  split at hx
  · cases hx; exact .inr rfl
  · cases hx

/-- The frame without what leads to a root's row. -/
def delR (r : Root) : Fr → Fr
  | [] => []
  | (k, x) :: F => bif x.refers r then delR r F else (k, x) :: delR r F
theorem mem_delR {r : Root} {k : Nat} {x : SV} : ∀ {F : Fr}, (k, x) ∈ delR r F → (k, x) ∈ F ∧ x.refers r = false
  | [], h => by cases h
  | (j, y) :: F, h => by
    unfold delR at h
    cases hc : y.refers r with
    | true =>
      rw [hc] at h
      obtain ⟨h1, h2⟩ := mem_delR (F := F) (by simpa using h)
      exact ⟨List.mem_cons_of_mem _ h1, h2⟩
    | false =>
      rw [hc] at h
      simp only [cond_false, List.mem_cons, Prod.mk.injEq] at h
      rcases h with ⟨rfl, rfl⟩ | h
      · exact ⟨by simp, hc⟩
      · obtain ⟨h1, h2⟩ := mem_delR (F := F) h
        exact ⟨List.mem_cons_of_mem _ h1, h2⟩

/-- A row goes from a cell to a slot. -/
theorem Sim.take {id off b d : Nat} {ks : List SV} {pr : Bool} {e n sz : Nat} {cs : List V} (h : Sim c N ⟨F, H⟩ a w) (hb : c.φ[id]? = some b) (hk : H[id]? = some (.cells ks)) (hj : ks[off]? = some (.own pr e n sz cs)) (hd : d < N) :
    ∃ c' v, w.cell? ⟨b, off, none⟩ = some v ∧ Sim c' N ⟨putF d (.own pr e n sz cs) (delR (.cell id off) F), setBlk H id off .any⟩ (a.put (some d) v) w ∧ Ext c w c' w := by
  obtain ⟨hr, hi, arr, e', q1, q2, q6, q3⟩ := h.inv.blk id b _ hb hk
  have hlt : off < arr.size := by rw [q2]; exact (List.getElem?_eq_some_iff.1 hj).1
  obtain ⟨_, h0, vs, h1, h2, h6, h3⟩ := q3 off _ _ hj (Array.getElem?_eq_getElem hlt)
  have hu : w.cell? ⟨b, off, none⟩ = some arr[off] := by simp [World.cell?, q1, hlt]
  generalize arr[off] = u at *
  have s1 : Sim c N ⟨delR (.cell id off) F, setBlk H id off .any⟩ a w := (h.sub fun p hp => (mem_delR (x := p.2) (k := p.1) hp).1).dim hk
  rcases h2.2 with ⟨rfl, rfl⟩ | ⟨g, cap, cur, rfl, hb0, g1, g2, g3, g4, g5⟩
  · obtain ⟨rfl, rfl⟩ := nil_of h1 h2
    exact ⟨_, _, hu, s1.put' hd (own_nil h0), Ext.free c w _⟩
  · obtain ⟨k1, k2⟩ := h3 g rfl
    have hglt := h.inv.lt g (by rw [k1]; simp)
    refine ⟨_, _, hu, s1.put_own hd hglt (fun i => by rw [k1]; simp) (fun i j hij => ?_) (fun k x hx => ?_) ?_, Ext.give c w (fun _ => by rw [k1]; simp)⟩
    · rw [k1] at hij
      cases hij
      exact bare_dim hk
    · refine ⟨by rw [k1]; simp, fun q hq => ?_⟩
      rw [k1] at hq
      cases hq
      exact (mem_delR (mem_del hx).1).2
    · refine ⟨h0, vs, h1, h2, h6, fun b' hb' => ?_⟩
      cases hb'
      exact ⟨give_self, k2⟩

/-- A row goes from a slot to a cell. -/
theorem Sim.place {id off b u : Nat} {ks : List SV} {pr : Bool} {e n sz : Nat} {cs : List V} (h : Sim c N ⟨F, H⟩ a w) (hu : getF u F = some (.own pr e n sz cs)) (hb : c.φ[id]? = some b) (hk : H[id]? = some (.cells ks)) (hj : off < ks.length) :
    ∃ c' v, a.tmps[u]? = some v ∧ v.oneCell' = true ∧ Sim c' N ⟨delR (.cell id off) (del u F), setBlk H id off (.own pr e n sz cs)⟩ a (w.setCell ⟨b, off, none⟩ v) ∧ Ext c w c' (w.setCell ⟨b, off, none⟩ v) := by
  obtain ⟨v, hv, h0, vs, h1, h2, h6, h3⟩ := h.fr u _ (mem_getF hu)
  have s1 : Sim c N ⟨delR (.cell id off) (del u F), setBlk H id off .any⟩ a w := (h.sub fun p hp => (mem_del (mem_delR (x := p.2) (k := p.1) hp).1).1).dim hk
  have hk1 : (setBlk H id off .any)[id]? = some (.cells (ks.set off .any)) := by rw [setBlk_get hk, if_pos rfl]
  obtain ⟨hr, _⟩ := h.inv.blk id b _ hb hk
  have hset : ∀ x, (setBlk H id off .any).set id (.cells ((ks.set off .any).set off x)) = setBlk H id off x := fun x => by
    rw [setBlk_eq' hk, setBlk_eq' hk]
    simp
  rcases h2.2 with ⟨rfl, rfl⟩ | ⟨g, cap, cur, rfl, hb0, g1, g2, g3, g4, g5⟩
  · obtain ⟨rfl, rfl⟩ := nil_of h1 h2
    have s2 := s1.store' (j := off) (v := .slice none 0 0) (x := .own pr e 0 sz []) hb hk1 rfl rfl (own_nil h0)
    rw [hset] at s2
    exact ⟨_, _, hv, rfl, s2, Ext.store c w (by rw [hr]; simp)⟩
  · obtain ⟨k1, k2⟩ := h3 g rfl
    have hglt := h.inv.lt g (by rw [k1]; simp)
    have hbg : b ≠ g := by rintro rfl; rw [hr] at k1; cases k1
    have s2 : Sim (c.give g (.cell id off)) N ⟨delR (.cell id off) (del u F), setBlk H id off .any⟩ a w := by
      refine ⟨s1.inv.give hglt (bare_dim hk) (fun i => by rw [k1]; simp) (fun i j hij => by rw [k1] at hij; cases hij), s1.size, s1.defers, fun k x hx => ?_⟩
      obtain ⟨v', hv', hs⟩ := s1.fr k x hx
      have m1 := mem_delR hx
      have m2 := mem_del m1.1
      refine ⟨v', hv', hs.give (fun q hq hR => ?_) (by simp) m1.2⟩
      rw [k1] at hR
      cases hR
      rcases hq with hq | hq
      · cases hq; exact m2.2.1 rfl
      · rw [m2.2.2] at hq; cases hq
    have hx : SRel (c.give g (.cell id off)) (w.setCell ⟨b, off, none⟩ (.slice (some ⟨g, 0, none⟩) n cap)) (.cell id off) (.own pr e n sz cs) (.slice (some ⟨g, 0, none⟩) n cap) := by
      refine ⟨h0, vs, h1, own_keep h2 fun g' hg' => heap_set_other (by cases hg'; exact Ne.symm hbg), h6, fun b' hb' => ?_⟩
      cases hb'
      exact ⟨give_self, k2⟩
    have s3 := s2.store' (j := off) (v := .slice (some ⟨g, 0, none⟩) n cap) (x := .own pr e n sz cs) (show (c.give g (.cell id off)).φ[id]? = some b from hb) hk1 rfl rfl hx
    rw [hset] at s3
    exact ⟨_, _, hv, rfl, s3, (Ext.give c w (r := .cell id off) (b := g) fun _ => by rw [k1]; simp).trans (Ext.store _ w (by rw [give_abs hr hbg]; simp))⟩
end
end AM
end Go.Proofs.Ytmjnffjacgjfmaa
