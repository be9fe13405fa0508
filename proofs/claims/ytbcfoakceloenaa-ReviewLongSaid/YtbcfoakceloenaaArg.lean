/- Arguments of plain types (integers, Booleans, texts; structs of those, in one another): their cells, by value and in a slice. -/
import Derived.Test.YtbcfoakceloenaaRows
import Derived.Test.YtbcfoakceloenaaBase
import Derived.ProofKit
import Derived.Deep.Slices
namespace Go.Proofs.Ytbcfoakceloenaa
open Go.ChangeShapes Go.WideShapes Go.Deep

structure Fits (k : IntKind) (n : Int) : Prop where
  wf : (Lit.int k n).wf = true
inductive Leaf | int (k : IntKind) | bool | text
namespace Leaf
def ok : Leaf → Value → Prop
  | .int k, v => ∃ n, v = .int k n ∧ Fits k n
  | .bool, v => ∃ b, v = .bool b
  | .text, v => ∃ s : ByteArray, v = .string s ∧ s.size ≤ maxLen
def all : List Leaf → List Value → Prop
  | [], vs => vs = []
  | l :: ls, vs => ∃ v vs', vs = v :: vs' ∧ l.ok v ∧ all ls vs'
theorem all_append : ∀ {ls ms : List Leaf} {vs ws : List Value}, all ls vs → all ms ws → all (ls ++ ms) (vs ++ ws)
  | [], _, _, _, h, k => by
    cases h
    exact k
  | _ :: _, _, _, _, ⟨v, vs', rfl, h1, h2⟩, k => ⟨v, _, rfl, h1, all_append h2 k⟩
theorem all_length : ∀ {ls : List Leaf} {vs : List Value}, all ls vs → vs.length = ls.length
  | [], _, h => by cases h; rfl
  | _ :: _, _, ⟨v, vs', rfl, _, h2⟩ => by simp [all_length h2]
theorem int_cons {k : IntKind} {ls : List Leaf} {vs : List Value} (h : all (.int k :: ls) vs) : ∃ n vs', vs = .int k n :: vs' ∧ Fits k n ∧ all ls vs' := by
  obtain ⟨v, vs', rfl, ⟨n, rfl, hn⟩, h2⟩ := h
  exact ⟨n, vs', rfl, hn, h2⟩
theorem bool_cons {ls : List Leaf} {vs : List Value} (h : all (.bool :: ls) vs) : ∃ b vs', vs = .bool b :: vs' ∧ all ls vs' := by
  obtain ⟨v, vs', rfl, ⟨b, rfl⟩, h2⟩ := h
  exact ⟨b, vs', rfl, h2⟩
theorem text_cons {ls : List Leaf} {vs : List Value} (h : all (.text :: ls) vs) : ∃ s vs', vs = .string s :: vs' ∧ s.size ≤ maxLen ∧ all ls vs' := by
  obtain ⟨v, vs', rfl, ⟨s, rfl, hs⟩, h2⟩ := h
  exact ⟨s, vs', rfl, hs, h2⟩
theorem all_nil {vs : List Value} (h : all [] vs) : vs = [] := h
end Leaf

def leavesIn (P : Program) (g : TypeId → Option (List Leaf)) (size : Nat) : Nat → List Field → Option (List Leaf)
  | off, [] => if off = size then some [] else none
  | off, f :: fs => if f.offset = off then (g f.type).bind fun ls => if ls.length = P.cellsOf f.type then (leavesIn P g size (off + ls.length) fs).map (ls ++ ·) else none else none
def leavesOf (P : Program) : Nat → TypeId → Option (List Leaf)
  | 0, _ => none
  | n + 1, t =>
    match P.underlying t with
    | some .bool => some [.bool]
    | some (.int k) => some [.int k]
    | some .string => some [.text]
    | some (.struct fs) => leavesIn P (leavesOf P n) (P.cellsOf t) 0 fs.toList
    | _ => none

section
variable {H : Type} {enc : TypeId × Value → H} {P : Program} {w : World} {base : Nat} {spare : Nat → Bool} {held : Bool}

theorem leavesIn_read {g : TypeId → Option (List Leaf)} {size m : Nat} {cs : List Value} (hg : ∀ t ls n cs x, g t = some ls → DataW.trod enc P w base spare held n t cs = some x → Leaf.all ls cs) (hcs : cs.length = size) :
    ∀ (fs : List Field) (off : Nat) (ls : List Leaf), leavesIn P g size off fs = some ls → (∀ f ∈ fs, ∃ x, DataW.trod enc P w base spare held m f.type ((cs.drop f.offset).take (P.cellsOf f.type)) = some x) → Leaf.all ls (cs.drop off)
  | [], off, ls, h, _ => by
    unfold leavesIn at h
    split at h
    · cases h
      rename_i ho
      show cs.drop off = []
      rw [List.drop_eq_nil_of_le (by omega)]
    · cases h
  | f :: fs, off, ls, h, hf => by
    unfold leavesIn at h
    split at h
    · rename_i ho
      obtain ⟨l1, h1, h2⟩ := Option.bind_eq_some_iff.1 h
      split at h2
      · rename_i hl
        obtain ⟨l2, h3, rfl⟩ := Option.map_eq_some_iff.1 h2
        obtain ⟨x, hx⟩ := hf f (List.mem_cons_self ..)
        have a1 := hg f.type l1 m _ x h1 hx
        have a2 := leavesIn_read hg hcs fs _ l2 h3 (fun f h => hf f (List.mem_cons_of_mem _ h))
        have a3 := Leaf.all_append a1 a2
        rw [ho, hl, ← List.drop_drop, List.take_append_drop] at a3
        exact a3
      · cases h2
    · cases h

theorem leaves_read : ∀ (k : Nat) (t : TypeId) (ls : List Leaf) (n : Nat) (cs : List Value) (x : DataW H × List MemPlace), leavesOf P k t = some ls → DataW.trod enc P w base spare held n t cs = some x → Leaf.all ls cs
  | 0, _, _, _, _, _, h, _ => by cases h
  | k + 1, t, ls, n, cs, x, h, hx => by
    unfold leavesOf at h
    split at h
    · rename_i hu
      cases h
      obtain ⟨b, rfl, _⟩ := DataW.trod_bool hu hx
      exact ⟨_, _, rfl, ⟨b, rfl⟩, rfl⟩
    · rename_i hu
      cases h
      obtain ⟨n, rfl, _, hwf⟩ := DataW.trod_int hu hx
      exact ⟨_, _, rfl, ⟨n, rfl, ⟨hwf⟩⟩, rfl⟩
    · rename_i hu
      cases h
      obtain ⟨s, rfl, _, hs⟩ := DataW.trod_string hu hx
      exact ⟨_, _, rfl, ⟨s, rfl, hs⟩, rfl⟩
    · rename_i fs hu
      obtain ⟨xs, m, _, _, hl, hlen, hf⟩ := DataW.trod_struct hu hx
      have := leavesIn_read (enc := enc) (w := w) (base := base) (spare := spare) (held := held) (m := m) (fun t ls n cs x h h' => leaves_read k t ls n cs x h h') hl fs.toList 0 ls h (fun f hf' => by
        obtain ⟨i, hi⟩ := List.getElem?_of_mem hf'
        have hi' : fs[i]? = some f := by rw [← hi]; simp
        have hil : i < fs.size := by
          rcases Nat.lt_or_ge i fs.size with h | h
          · exact h
          · rw [Array.getElem?_eq_none h] at hi'; cases hi'
        exact ⟨xs[i]'(by omega), by rw [hf i f hi', List.getElem?_eq_getElem (by omega)]⟩)
      simpa using this
    · cases h

/-- A plain struct by value. -/
theorem plain_val {r : Reach} {b0 k : Nat} {t : TypeId} {fs : Array Field} {ls : List Leaf} {v : Value} {d : DataW H} {p : List MemPlace} (hs : P.underlying t = some (.struct fs)) (hl : leavesOf P k t = some ls)
    (hv : Value.okWide P w r b0 t v) (h : DataW.Trod enc P w base spare held t v d p) : ∃ cs : List Value, v = .agg cs.toArray ∧ Leaf.all ls cs := by
  obtain ⟨cs, rfl, _⟩ := okWide_struct hs hv
  obtain ⟨n, hn⟩ := h
  exact ⟨cs.toList, by simp, leaves_read k t ls n _ _ hl hn⟩

theorem block_of_cell {w : World} {a : Addr} {v : Value} (h : w.cell? a = some v) : a.block < w.heap.size ∧ a.spot = none := by
  unfold World.cell? at h
  split at h
  · rename_i hb
    refine ⟨?_, ?_⟩
    · rcases Nat.lt_or_ge a.block w.heap.size with h1 | h1
      · exact h1
      · rw [Array.getElem?_eq_none h1] at hb
        cases hb
    · cases hs : a.spot with
      | none => rfl
      | some x => rw [hs] at h; simp at h
  · cases h

theorem addr_add {a : Addr} (ha : a.spot = none) (n : Nat) : a.add n = ⟨a.block, a.off + n, none⟩ := by
  obtain ⟨b, o, s⟩ := a
  cases ha
  unfold Addr.add
  split
  · simp_all
  · rfl

/-- A slice of plain elements. -/
theorem plain_slice {α : Type} [Inhabited α] {k : Nat} {t e : TypeId} {ls : List Leaf} {v : Value} {d : DataW H} {p : List MemPlace} {cells : α → List Value} (ht : P.underlying t = some (.slice e)) (hl : leavesOf P k e = some ls) (hsz : 0 < P.cellsOf e)
    (hα : ∀ cs, Leaf.all ls cs → ∃ x : α, cells x = cs) (hone : ∃ a l c, v = .slice a l c) (h : DataW.Trod enc P w base spare held t v d p) : ∃ xs : List α, Sl w w.heap.size (P.cellsOf e) cells v xs := by
  obtain ⟨n, hn⟩ := h
  obtain ⟨A, L, C, rfl⟩ := hone
  rcases open_slice ht hn with ⟨h0, _⟩ | ⟨a, len, cap, m, n, D, Pl, hv, hb, hlc, hcm, hm, _, hx⟩
  · simp [Value.cells] at h0
    obtain ⟨rfl, rfl, rfl⟩ := h0
    exact ⟨[], Sl.nil⟩
  · simp [Value.cells] at hv
    obtain ⟨rfl, rfl, rfl⟩ := hv
    have hlm : L ≤ m := by rw [hm]; split <;> omega
    obtain ⟨f, hf⟩ := choose_lt (α := α) (n := L) (p := fun i x => w.cells? base (a.add (i * P.cellsOf e)) (P.cellsOf e) = some (cells x)) (fun i hi => by
      obtain ⟨cs', h1, h2⟩ := hx i (by omega)
      obtain ⟨x, hx⟩ := hα cs' (leaves_read k e ls _ _ _ hl h2)
      exact ⟨x, by rw [hx]; exact h1⟩)
    refine ⟨(List.range L).map f, some a, C, by simp, by simpa using hlc, hcm, fun h0 => ?_⟩
    simp at h0
    obtain ⟨_, hln, hc0⟩ := World.cells?_some (hf 0 h0)
    have h00 : w.cell? a = some ((cells (f 0))[0]'(by omega)) := by
      have := hc0 0 hsz
      rw [List.getElem?_eq_getElem (by omega)] at this
      simpa [Addr.add] using this
    obtain ⟨hab, hsp⟩ := block_of_cell h00
    refine ⟨a.block, a.off, ?_, hab, fun i x hx j u hu => ?_⟩
    · obtain ⟨b, o, s⟩ := a
      cases hsp
      rfl
    · have hi : i < L := by
        have := (List.getElem?_eq_some_iff.1 hx).1
        simpa using this
      simp [hi] at hx
      subst hx
      obtain ⟨_, hln, hci⟩ := World.cells?_some (hf i hi)
      have hj : j < P.cellsOf e := by
        have := (List.getElem?_eq_some_iff.1 hu).1
        omega
      have := hci j hj
      rw [hu, addr_add hsp, addr_add (by rfl)] at this
      exact this

theorem int_shape {k : IntKind} {t : TypeId} {r : Reach} {b0 : Nat} {v : Value} {d : DataW H} {p : List MemPlace} (ht : P.underlying t = some (.int k)) (hv : Value.okWide P w r b0 t v) (h : DataW.Trod enc P w base spare held t v d p) : ∃ n, v = .int k n ∧ Fits k n := by
  obtain ⟨n, hn⟩ := h
  obtain ⟨z, rfl⟩ := okWide_int ht hv
  obtain ⟨z', hz, _, hwf⟩ := DataW.trod_int ht hn
  simp [Value.cells] at hz
  subst hz
  exact ⟨z, rfl, ⟨hwf⟩⟩
end
end Go.Proofs.Ytbcfoakceloenaa
