/- Words for memory: a block known whole, a slice that reads as a list of structs, what a call may have turned. Plain lemmas, over any program. -/
import Derived.WalkKit
import Derived.WalkSpells
import Derived.WalkLawsBesides
import Derived.BigQuiet
import Derived.Maps.AppendAt
namespace Go.Proofs.Ytmjnffjacgjfmaa
open Go.RowKit

/-- Block g is just the cells cs of element type t, none frozen. -/
def Blk (w : World) (g : Nat) (t : TypeId) (cs : Array Value) : Prop := w.heap[g]? = some (.cells cs t (0, 0))

section
variable {w w' : World} {g : Nat} {t : TypeId} {cs : Array Value}
theorem Blk.lt (h : Blk w g t cs) : g < w.heap.size := by
  rcases Nat.lt_or_ge g w.heap.size with hlt | hge
  · exact hlt
  · unfold Blk at h; rw [Array.getElem?_eq_none hge] at h; cases h
theorem Blk.cell (h : Blk w g t cs) (i : Nat) : w.cell? ⟨g, i, none⟩ = cs[i]? := cell_of_row w g i cs t (0, 0) h
theorem Blk.frozen (h : Blk w g t cs) (i : Nat) : w.frozen? ⟨g, i, none⟩ = false := by
  unfold Blk at h
  simp [World.frozen?, h]
theorem Blk.new (w : World) (t : TypeId) (cs : Array Value) : Blk (w.alloc (.cells cs t)) w.heap.size t cs := heap_alloc_new w _
theorem Blk.new2 (w : World) (o : Obj) (t : TypeId) (cs : Array Value) : Blk ((w.alloc o).alloc (.cells cs t)) (w.heap.size + 1) t cs := by
  have h := Blk.new (w.alloc o) t cs
  rwa [show (w.alloc o).heap.size = w.heap.size + 1 by simp] at h
theorem Blk.drew (h : Blk w g t cs) : Blk w.drew g t cs := h
theorem Blk.drewN (h : Blk w g t cs) (n : Nat) : Blk (w.drewN n) g t cs := h
theorem Blk.alloc (h : Blk w g t cs) (o : Obj) : Blk (w.alloc o) g t cs := (Below.heap_alloc w o g h.lt).trans h
theorem Blk.set_ (h : Blk w g t cs) (i : Nat) (u : Value) : Blk (w.setCell ⟨g, i, none⟩ u) g t (cs.setIfInBounds i u) := by
  unfold Blk at h ⊢
  simp [World.setCell, Array.getElem?_modify, h]
theorem Blk.far (h : Blk w g t cs) {p : Addr} (hp : g ≠ p.block) (u : Value) : Blk (w.setCell p u) g t cs := (Below.heap_setCell w p u g hp).trans h
theorem Blk.below {B : Nat} (h : Blk w g t cs) (hb : Below B w w') (hg : g < B) : Blk w' g t cs := (hb.block g hg).trans h
theorem Blk.grown {row : Option Nat} (h : Blk w g t cs) (hb : w.grownBy w' row) (hg : some g ≠ row) : Blk w' g t cs := (hb.block g h.lt hg).trans h
theorem Blk.ne_ {g' : Nat} {t' : TypeId} {cs' : Array Value} (h : Blk w g t cs) (h' : Blk w g' t' cs') (hne : t ≠ t') : g ≠ g' := by
  rintro rfl
  unfold Blk at h h'
  rw [h] at h'
  injection h' with h'
  injection h' with _ ht
  exact hne ht
end

/-- What a call may have turned: the blocks of S, and what is new. -/
structure Keep (S : Nat → Prop) (w w' : World) : Prop where
  os : w'.os = w.os
  tape : w'.tape = w.tape
  output : w'.output = w.output
  size : w.heap.size ≤ w'.heap.size
  block : ∀ k, k < w.heap.size → ¬ S k → w'.heap[k]? = w.heap[k]?

section
variable {S S' : Nat → Prop} {w w' w'' : World}
theorem Keep.refl (S : Nat → Prop) (w : World) : Keep S w w := ⟨rfl, rfl, rfl, Nat.le_refl _, fun _ _ _ => rfl⟩
theorem Keep.trans (h : Keep S w w') (k : Keep S w' w'') : Keep S w w'' :=
  ⟨k.os.trans h.os, k.tape.trans h.tape, k.output.trans h.output, Nat.le_trans h.size k.size, fun i hi hn => (k.block i (Nat.lt_of_lt_of_le hi h.size) hn).trans (h.block i hi hn)⟩
theorem Keep.mono (h : Keep S w w') (hS : ∀ k, k < w.heap.size → S k → S' k) : Keep S' w w' := ⟨h.os, h.tape, h.output, h.size, fun k hk hn => h.block k hk (fun hs => hn (hS k hk hs))⟩
theorem Keep.of_below (h : Below w.heap.size w w') : Keep S w w' := ⟨h.os, h.tape, h.output, h.size, fun k hk _ => h.block k hk⟩
theorem Keep.below (h : Keep S w w') {B : Nat} (hB : B ≤ w.heap.size) (hS : ∀ k, k < B → ¬ S k) : Below B w w' := ⟨h.os, h.tape, h.output, h.size, fun k hk => h.block k (by omega) (hS k hk)⟩
/-- A further step that turns blocks of S or new ones. -/
theorem Keep.step (h : Keep S w w') (k : Keep S' w' w'') (hS : ∀ b, b < w.heap.size → S' b → S b) : Keep S w w'' :=
  ⟨k.os.trans h.os, k.tape.trans h.tape, k.output.trans h.output, Nat.le_trans h.size k.size, fun i hi hn => (k.block i (Nat.lt_of_lt_of_le hi h.size) (fun hs => hn (hS i hi hs))).trans (h.block i hi hn)⟩
theorem Keep.grown (h : Keep S w w') {row : Option Nat} (k : w'.grownBy w'' row) (hS : ∀ b, b < w.heap.size → row = some b → S b) : Keep S w w'' :=
  ⟨k.os.trans h.os, k.tape.trans h.tape, k.output.trans h.output, Nat.le_trans h.size k.size, fun i hi hn => (k.block i (Nat.lt_of_lt_of_le hi h.size) (fun hs => hn (hS i hi hs.symm))).trans (h.block i hi hn)⟩
theorem Keep.alloc (h : Keep S w w') (o : Obj) : Keep S w (w'.alloc o) :=
  ⟨h.os, h.tape, h.output, Nat.le_trans h.size (by simp), fun i hi hn => (Below.heap_alloc w' o i (Nat.lt_of_lt_of_le hi h.size)).trans (h.block i hi hn)⟩
theorem Keep.drew (h : Keep S w w') : Keep S w w'.drew := ⟨h.os, h.tape, h.output, h.size, h.block⟩
theorem Keep.drewN (h : Keep S w w') (n : Nat) : Keep S w (w'.drewN n) := ⟨h.os, h.tape, h.output, h.size, h.block⟩
theorem Keep.setCell (h : Keep S w w') {p : Addr} (hp : S p.block ∨ w.heap.size ≤ p.block) (u : Value) : Keep S w (w'.setCell p u) :=
  ⟨h.os, h.tape, h.output, by simpa [World.setCell] using h.size, fun i hi hn => (Below.heap_setCell w' p u i (by
    rintro rfl
    rcases hp with hp | hp
    · exact hn hp
    · omega)).trans (h.block i hi hn)⟩
theorem Blk.keep {g : Nat} {t : TypeId} {cs : Array Value} (h : Blk w g t cs) (k : Keep S w w') (hg : ¬ S g) : Blk w' g t cs := (k.block g h.lt hg).trans h
end

/-- A slice value that reads as the list xs: each element has sz cells, 'enc' gives them; it lies below block B. -/
def Sl {α : Type} (w : World) (B sz : Nat) (enc : α → List Value) (v : Value) (xs : List α) : Prop :=
  ∃ A c, v = .slice A xs.length c ∧ xs.length ≤ c ∧ c ≤ maxLen ∧
    (0 < xs.length → ∃ b o, A = some ⟨b, o, none⟩ ∧ b < B ∧ ∀ i x, xs[i]? = some x → ∀ j u, (enc x)[j]? = some u → w.cell? ⟨b, o + i * sz + j, none⟩ = some u)

section
variable {α : Type} {w w' : World} {B B' sz : Nat} {enc : α → List Value} {v : Value} {xs : List α}
theorem Sl.keep (h : Sl w B sz enc v xs) (hk : ∀ p : Addr, p.block < B → w'.cell? p = w.cell? p) : Sl w' B sz enc v xs := by
  obtain ⟨A, c, rfl, h1, h2, h3⟩ := h
  refine ⟨A, c, rfl, h1, h2, fun hn => ?_⟩
  obtain ⟨b, o, rfl, hb, hc⟩ := h3 hn
  exact ⟨b, o, rfl, hb, fun i x hx j u hu => (hk _ hb).trans (hc i x hx j u hu)⟩
theorem Sl.more (h : Sl w B sz enc v xs) (hB : B ≤ B') : Sl w B' sz enc v xs := by
  obtain ⟨A, c, rfl, h1, h2, h3⟩ := h
  refine ⟨A, c, rfl, h1, h2, fun hn => ?_⟩
  obtain ⟨b, o, rfl, hb, hc⟩ := h3 hn
  exact ⟨b, o, rfl, by omega, hc⟩
theorem Sl.below (h : Sl w B sz enc v xs) (hb : Below B w w') : Sl w' B sz enc v xs := h.keep fun _ hp => hb.cell hp
theorem Sl.drew (h : Sl w B sz enc v xs) : Sl w.drew B sz enc v xs := h
theorem Sl.nil : Sl w B sz enc (.slice none 0 0) [] := ⟨none, 0, rfl, Nat.le_refl _, Nat.zero_le _, fun h => absurd h (by simp)⟩
/-- What is owned reads as the list. -/
theorem Sl.of_own {base : Nat} {e : TypeId} (hsz : ∀ x, (enc x).length = sz) (h : w.ownsRow base e sz v xs.length (xs.flatMap enc)) : Sl w w.heap.size sz enc v xs := by
  obtain ⟨h1, h2⟩ := h
  rcases h2 with ⟨rfl, h0⟩ | ⟨g, cap, cur, rfl, hg, hh, hnc, hm, hcs, htake⟩
  · exact ⟨none, 0, by rw [h0], by omega, by unfold maxLen; omega, fun h => by omega⟩
  · refine ⟨_, cap, rfl, hnc, hm, fun hn => ⟨g, 0, rfl, Blk.lt (t := e) hh, fun i x hx j u hu => ?_⟩⟩
    rw [Blk.cell (t := e) hh]
    have hi : i < xs.length := (List.getElem?_eq_some_iff.1 hx).1
    have hj : j < sz := by have := (List.getElem?_eq_some_iff.1 hu).1; rw [hsz] at this; exact this
    have key : ∀ (l : List α) (k : Nat) (y : α), l[k]? = some y → (l.flatMap enc)[k * sz + j]? = (enc y)[j]? := by
      intro l
      induction l with
      | nil => intro k y hy; simp at hy
      | cons z l ih =>
        intro k y hy
        cases k with
        | zero =>
          simp at hy
          subst hy
          rw [List.flatMap_cons, List.getElem?_append_left (by rw [hsz]; omega)]
          simp
        | succ k =>
          simp at hy
          rw [List.flatMap_cons, List.getElem?_append_right (by rw [hsz, Nat.succ_mul]; omega), hsz]
          rw [show (k + 1) * sz + j - sz = k * sz + j by rw [Nat.succ_mul]; omega]
          exact ih k y hy
    have h5 := key xs i x hx
    rw [hu, ← htake, List.getElem?_take] at h5
    have : i * sz + j < xs.length * sz := by
      have : (i + 1) * sz ≤ xs.length * sz := Nat.mul_le_mul_right _ hi
      rw [Nat.succ_mul] at this
      omega
    rw [if_pos this] at h5
    simpa using h5
end

theorem own_keep {w w' : World} {base : Nat} {e : TypeId} {size n : Nat} {v : Value} {xs : List Value} (h : w.ownsRow base e size v n xs) (hk : ∀ g, v.ownBlock = some g → w'.heap[g]? = w.heap[g]?) :
    w'.ownsRow base e size v n xs := by
  obtain ⟨h1, h2⟩ := h
  refine ⟨h1, ?_⟩
  rcases h2 with h2 | ⟨g, cap, cur, rfl, hg, hh, r⟩
  · exact Or.inl h2
  · exact Or.inr ⟨g, cap, cur, rfl, hg, (hk g rfl).trans hh, r⟩
theorem own_lt {w : World} {base : Nat} {e : TypeId} {size n : Nat} {v : Value} {xs : List Value} (h : w.ownsRow base e size v n xs) : ∀ g, v.ownBlock = some g → base ≤ g ∧ g < w.heap.size := by
  intro g hg
  rcases h.2 with ⟨rfl, _⟩ | ⟨g', cap, cur, rfl, hb, hh, _⟩
  · simp [Value.ownBlock] at hg
  · simp [Value.ownBlock] at hg
    subst hg
    exact ⟨hb, Blk.lt (t := e) hh⟩
theorem own_below {w w' : World} {base B : Nat} {e : TypeId} {size n : Nat} {v : Value} {xs : List Value} (h : w.ownsRow base e size v n xs) (hb : Below B w w') (hB : w.heap.size ≤ B) : w'.ownsRow base e size v n xs :=
  own_keep h fun g hg => hb.block g (by have := (own_lt h g hg).2; omega)
theorem own_alloc {w : World} {base : Nat} {e : TypeId} {size n : Nat} {v : Value} {xs : List Value} (h : w.ownsRow base e size v n xs) (o : Obj) : (w.alloc o).ownsRow base e size v n xs :=
  own_keep h fun g hg => Below.heap_alloc w o g (own_lt h g hg).2

/-- A slice of the call's own that holds the list xs. -/
def Own {α : Type} (w : World) (base : Nat) (e : TypeId) (sz : Nat) (enc : α → List Value) (v : Value) (xs : List α) : Prop := w.ownsRow base e sz v xs.length (xs.flatMap enc)
section
variable {α : Type} {w w' : World} {base B sz : Nat} {e : TypeId} {enc : α → List Value} {v : Value} {xs : List α}
theorem Own.nil : Own w base e sz enc (.slice none 0 0) [] := ⟨by simp, .inl ⟨rfl, rfl⟩⟩
theorem Own.lt (h : Own w base e sz enc v xs) : ∀ g, v.ownBlock = some g → base ≤ g ∧ g < w.heap.size := own_lt h
theorem Own.keep (h : Own w base e sz enc v xs) (hk : ∀ g, v.ownBlock = some g → w'.heap[g]? = w.heap[g]?) : Own w' base e sz enc v xs := own_keep h hk
theorem Own.alloc (h : Own w base e sz enc v xs) (o : Obj) : Own (w.alloc o) base e sz enc v xs := own_alloc h o
theorem Own.drew (h : Own w base e sz enc v xs) : Own w.drew base e sz enc v xs := h
theorem Own.below (h : Own w base e sz enc v xs) (hb : Below w.heap.size w w') : Own w' base e sz enc v xs := own_below h hb (Nat.le_refl _)
theorem Own.sl (h : Own w base e sz enc v xs) (hsz : ∀ x, (enc x).length = sz) : Sl w w.heap.size sz enc v xs := Sl.of_own hsz h
theorem Own.grown {row : Option Nat} (h : Own w base e sz enc v xs) (hg : w.grownBy w' row) (hr : ∀ g, v.ownBlock = some g → row ≠ some g) : Own w' base e sz enc v xs :=
  own_keep h fun g hv => hg.block g (own_lt h g hv).2 (fun e => hr g hv e.symm)
end

/-- The table's rows of a slice type t and its element type e. -/
structure Elt (P : Program) (t e : TypeId) (sz bytes : Nat) : Prop where
  under : P.underlying t = some (.slice e)
  info : ∃ i z, P.info? e = some i ∧ i.zero = some z ∧ i.size = sz ∧ i.bytes = bytes ∧ z.cells.size = sz
theorem elt_of {P : Program} {t e : TypeId} {sz bytes : Nat} {z : Value} (h1 : P.underlying t = some (.slice e)) (h2 : (P.info? e).map (fun i => (i.zero, i.size, i.bytes)) = some (some z, sz, bytes)) (h3 : z.cells.size = sz) :
    Elt P t e sz bytes := by
  obtain ⟨i, hi, a, b, c⟩ := info_parts h2
  exact ⟨h1, i, z, hi, a, b, c, h3⟩

/-- The walk stands still here. -/
def Stop (p : Prop) : Prop := p
theorem Stop.go {p : Prop} (h : p) : Stop p := h

theorem wpList_push {P : Program} {α : Type} (w : World) {ops : Array Oper} {rest : List Oper} {o : Oper} {a : Act} {Q : Exit → Act → World → Prop} (hgd : o.guard = none) (s x : Operand) (t : TypeId)
    (ho : o.op = .call { callee := .builtin .append, args := #[s, x], argTypes := #[t, t] }) {e : TypeId} {sz bytes : Nat} (el : Elt P t e sz bytes) (hsz : 0 < sz)
    {enc : α → List Value} (hen : ∀ y, (enc y).length = sz ∧ ∀ u ∈ enc y, u.oneCell' = true) (base : Nat) (v : Value) (xs : List α) (hs : a.eval s = v) (hown : Own w base e sz enc v xs)
    (g : Nat) (y : α) (hx : a.eval x = .slice (some ⟨g, 0, none⟩) 1 1) (hb : Blk w g e (enc y).toArray) (hbytes : (xs.length + 1) * bytes ≤ 140737488355328) (h63 : xs.length + 1 ≤ maxLen) (hbase : base ≤ w.heap.size)
    (h : ∀ v' w', Own w' base e sz enc v' (xs ++ [y]) → w.grownBy w' v.ownBlock → (v'.ownBlock = v.ownBlock ∨ v'.ownBlock = some w.heap.size) → Stop (wpList P ops Q rest (a.put o.dst v') w')) :
    wpList P ops Q (o :: rest) a w := by
  obtain ⟨i, z, h2, h3, h4, h5, h6⟩ := el.info
  refine wpList_append_own_at w hgd s x t ho base e i z sz bytes el.under h2 h3 h4 h5 h6 hsz v xs.length (xs.flatMap enc) hs hown ⟨g, 0, none⟩ 1 1 (enc y) hx (by rw [(hen y).1, Nat.one_mul]) ?_ (hen y).2 h63 hbytes hbase ?_
  · intro j u hj
    have hadd : (⟨g, 0, none⟩ : Addr).add j = ⟨g, j, none⟩ := by
      unfold Addr.add
      by_cases h0 : j = 0 <;> simp [h0]
    rw [hadd, hb.cell]
    simpa using hj
  · intro v' w' h7 h8 _ h9
    refine h v' w' ?_ h8 h9
    unfold Own
    rw [List.flatMap_append, List.length_append]
    simpa using h7

theorem grown_of_alloc {w w1 : World} {o : Obj} {row : Option Nat} (h : (w.alloc o).grownBy w1 row) : w.grownBy w1 row :=
  ⟨h.os, h.tape, h.output, Nat.le_trans (by simp) h.size, fun k hk hn => (h.block k (by simp; omega) hn).trans (Below.heap_alloc w o k hk)⟩
theorem grown_of_drew {w w1 : World} {row : Option Nat} (h : w.drew.grownBy w1 row) : w.grownBy w1 row := ⟨h.os, h.tape, h.output, h.size, h.block⟩
theorem undrew {w w1 : World} (h : Below w.drew.heap.size w.drew w1) : Below w.heap.size w w1 := ⟨h.os, h.tape, h.output, h.size, h.block⟩
theorem undrewN {w w1 : World} {n : Nat} (h : Below (w.drewN n).heap.size (w.drewN n) w1) : Below w.heap.size w w1 := ⟨h.os, h.tape, h.output, h.size, h.block⟩
theorem unalloc {w w1 : World} {o : Obj} (h : Below (w.alloc o).heap.size (w.alloc o) w1) : Below w.heap.size w w1 :=
  ⟨h.os, h.tape, h.output, Nat.le_trans (by simp) h.size, fun k hk => (h.block k (by simp; omega)).trans (Below.heap_alloc w o k hk)⟩
theorem belowStep {w wr w2 : World} {B : Nat} (h : Below B w wr) (hz : B ≤ wr.heap.size) (h2 : Below wr.heap.size wr w2) : Below B w w2 := h.trans (h2.mono hz)
theorem belowPush {α : Type} {w wr w1 : World} {B base sz : Nat} {e : TypeId} {enc : α → List Value} {v : Value} {xs : List α} (h : Below B w wr) (hown : Own wr base e sz enc v xs) (hg : wr.grownBy w1 v.ownBlock) (hB : B ≤ base) (hz : B ≤ wr.heap.size) : Below B w w1 :=
  h.grown hg hz fun k hk => by have := (hown.lt k hk).1; omega
theorem blkPush {α : Type} {wr w1 : World} {base sz g : Nat} {t e : TypeId} {cs : Array Value} {enc : α → List Value} {v : Value} {xs : List α} (h : Blk wr g t cs) (hown : Own wr base e sz enc v xs) (hg : wr.grownBy w1 v.ownBlock) (hB : g < base) : Blk w1 g t cs :=
  h.grown hg fun he => by have := (hown.lt g he.symm).1; omega

/-- A row of cells stored one behind the other. -/
def setRow (w : World) (g o : Nat) : List Value → World
  | [] => w
  | c :: cs => setRow (w.setCell ⟨g, o, none⟩ c) g (o + 1) cs
def setArr (a : Array Value) (o : Nat) : List Value → Array Value
  | [] => a
  | c :: cs => setArr (a.setIfInBounds o c) (o + 1) cs
theorem setArr_toList (cs : List Value) : ∀ (a : Array Value) (o : Nat), o + cs.length ≤ a.size → (setArr a o cs).toList = a.toList.take o ++ cs ++ a.toList.drop (o + cs.length) := by
  induction cs with
  | nil => intro a o h; simp [setArr]
  | cons c cs ih =>
    intro a o h
    simp only [List.length_cons] at h
    rw [setArr, ih _ _ (by simp; omega), Array.toList_setIfInBounds]
    have hlt : o < a.toList.length := by simp; omega
    rw [List.take_set, List.take_succ_eq_append_getElem hlt, List.drop_set_of_lt (by omega)]
    rw [List.set_append, if_neg (by simp; omega), List.length_take, Nat.min_eq_left (by omega), Nat.sub_self]
    simp only [List.set_cons_zero, List.append_assoc, List.singleton_append, List.cons_append, List.length_cons]
    rw [show o + 1 + cs.length = o + (cs.length + 1) by omega]
    simp
theorem setArr_size (cs : List Value) : ∀ (a : Array Value) (o : Nat), (setArr a o cs).size = a.size := by
  induction cs with
  | nil => intro a o; rfl
  | cons c cs ih => intro a o; rw [setArr, ih]; simp
theorem Blk.row {t : TypeId} (cs : List Value) : ∀ {w : World} {g : Nat} {a : Array Value} (o : Nat), Blk w g t a → Blk (setRow w g o cs) g t (setArr a o cs) := by
  induction cs with
  | nil => intro w g a o h; exact h
  | cons c cs ih => intro w g a o h; exact ih _ (h.set_ o c)
theorem setRow_keep (cs : List Value) : ∀ (w : World) (g o : Nat), w.grownBy (setRow w g o cs) (some g) := by
  induction cs with
  | nil => intro w g o; exact ⟨rfl, rfl, rfl, Nat.le_refl _, fun _ _ _ => rfl⟩
  | cons c cs ih =>
    intro w g o
    have h := ih (w.setCell ⟨g, o, none⟩ c) g (o + 1)
    refine ⟨h.os, h.tape, h.output, Nat.le_trans (by simp [World.setCell]) h.size, fun k hk hn => ?_⟩
    exact (h.block k (by simpa [World.setCell] using hk) hn).trans (Below.heap_setCell w _ c k (fun e => hn (by subst e; rfl)))
theorem flat_len {α : Type} {enc : α → List Value} {sz : Nat} (hsz : ∀ x, (enc x).length = sz) (xs : List α) : (xs.flatMap enc).length = xs.length * sz := by
  induction xs with
  | nil => simp
  | cons x xs ih => rw [List.flatMap_cons, List.length_append, hsz, ih, List.length_cons, Nat.succ_mul, Nat.add_comm]
theorem flat_take {α : Type} {enc : α → List Value} {sz : Nat} (hsz : ∀ x, (enc x).length = sz) (xs : List α) : ∀ i, (xs.flatMap enc).take (i * sz) = (xs.take i).flatMap enc := by
  induction xs with
  | nil => intro i; simp
  | cons x xs ih =>
    intro i
    cases i with
    | zero => simp
    | succ i =>
      rw [List.take_succ_cons, List.flatMap_cons, List.flatMap_cons, List.take_append, hsz, Nat.succ_mul, Nat.add_sub_cancel, ih, List.take_of_length_le (by rw [hsz]; omega)]
theorem flat_drop {α : Type} {enc : α → List Value} {sz : Nat} (hsz : ∀ x, (enc x).length = sz) (xs : List α) : ∀ i, (xs.flatMap enc).drop (i * sz) = (xs.drop i).flatMap enc := by
  induction xs with
  | nil => intro i; simp
  | cons x xs ih =>
    intro i
    cases i with
    | zero => simp
    | succ i =>
      rw [List.drop_succ_cons, List.flatMap_cons, List.drop_append, hsz, Nat.succ_mul, Nat.add_sub_cancel, ih, List.drop_of_length_le (by rw [hsz]; omega), List.nil_append]
/-- An element stored into a slice of the call's own. -/
theorem Own.set_ {α : Type} {w : World} {base sz : Nat} {e : TypeId} {enc : α → List Value} {v : Value} {xs : List α} (hsz : ∀ x, (enc x).length = sz) (h : Own w base e sz enc v xs) {g : Nat} (hv : v.ownBlock = some g) {i : Nat} (hi : i < xs.length) (y : α) :
    Own (setRow w g (i * sz) (enc y)) base e sz enc v (xs.set i y) := by
  obtain ⟨h1, h2⟩ := h
  rcases h2 with ⟨rfl, h0⟩ | ⟨g', cap, cur, rfl, hg, hh, hnc, hm, hcs, htake⟩
  · omega
  · have : g' = g := by simpa [Value.ownBlock] using hv
    subst this
    have hfit : i * sz + sz ≤ xs.length * sz := by
      have : (i + 1) * sz ≤ xs.length * sz := Nat.mul_le_mul_right _ hi
      rw [Nat.succ_mul] at this
      exact this
    have hcap : xs.length * sz ≤ cap * sz := Nat.mul_le_mul_right _ hnc
    have hset : (xs.set i y).flatMap enc = (xs.take i).flatMap enc ++ enc y ++ (xs.drop (i + 1)).flatMap enc := by
      rw [List.set_eq_take_append_cons_drop, if_pos hi, List.flatMap_append, List.flatMap_cons, List.append_assoc]
    refine ⟨flat_len hsz _, .inr ⟨g', cap, _, by rw [List.length_set], hg, (show Blk _ _ _ _ from Blk.row (t := e) (enc y) (i * sz) hh), by simpa using hnc, hm, by rw [setArr_size]; exact hcs, ?_⟩⟩
    rw [List.length_set, setArr_toList _ _ _ (by rw [hsz, hcs]; omega), hset, hsz]
    have hl : (cur.toList.take (i * sz)).length = i * sz := by rw [List.length_take, Nat.min_eq_left]; simp [hcs]; omega
    rw [List.take_append, List.take_of_length_le (by rw [List.length_append, hl, hsz]; omega), List.length_append, hl, hsz]
    congr 1
    · congr 1
      rw [← flat_take hsz, ← htake, List.take_take, Nat.min_eq_left (by omega)]
    · rw [← flat_drop hsz, ← htake, Nat.succ_mul, List.take_drop]
      congr 2
      omega

/-- true comes back; nothing that was there has turned. -/
def Yes (w : World) (e : Ending) (w' : World) : Prop := e = .returned (.bool true) ∧ Below w.heap.size w w'

theorem below_drewN {B : Nat} {a w : World} (h : Below B a w) (n : Nat) : Below B a (w.drewN n) := ⟨h.os, h.tape, h.output, h.size, h.block⟩
theorem hide {p : Prop} (h : p) : Hid p := h
theorem unhide {p : Prop} (h : Hid p) : p := h
theorem ret_bool {a b : Bool} (h : a = b) : Ending.returned (.bool a) = .returned (.bool b) := by rw [h]
theorem ret_int {k : IntKind} {a b : Int} (h : a = b) : Ending.returned (.int k a) = .returned (.int k b) := by rw [h]
theorem bcell {W w1 : World} (hb : Below W.heap.size W w1) : (∀ b o, b < W.heap.size → w1.cell? ⟨b, o, none⟩ = W.cell? ⟨b, o, none⟩) ∧ (∀ b o, b < W.heap.size → w1.frozen? ⟨b, o, none⟩ = W.frozen? ⟨b, o, none⟩) :=
  ⟨fun b o h => hb.cell (p := ⟨b, o, none⟩) h, fun b o h => hb.frozen (p := ⟨b, o, none⟩) h⟩
end Go.Proofs.Ytmjnffjacgjfmaa
