/- A region that draws its order, whose calls turn blocks of a set alone: its reads look elsewhere. -/
import Derived.Test.YthognfmmjkmjnaaMix
import Derived.Test.YthognfmmjkmjnaaBase
namespace Go.Proofs.Ythognfmmjkmjnaa
open Go.RowKit
namespace Mix

/-- A world with other blocks in S, and more blocks, after whatever draws. -/
structure Vary where
  d : Nat
  n : Nat
  f : Nat → Obj
instance : Inhabited Vary := ⟨⟨0, 0, fun _ => .cells #[] 0⟩⟩
open Classical in
noncomputable def vary (w : World) (S : Nat → Prop) (p : Vary) : World :=
  { w with heap := Array.ofFn (n := w.heap.size + p.n) (fun i => if h : i.val < w.heap.size ∧ ¬ S i.val then w.heap[i.val]'h.1 else p.f i), drawn := p.d }
theorem block_vary {w : World} {S : Nat → Prop} {k : Nat} {o : Obj} (h : w.heap[k]? = some o) (hS : ¬ S k) (p : Vary) : (vary w S p).heap[k]? = some o := by
  have hlt : k < w.heap.size := by
    rcases Nat.lt_or_ge k w.heap.size with hl | hl
    · exact hl
    · rw [Array.getElem?_eq_none hl] at h; cases h
  unfold vary
  rw [Array.getElem?_ofFn, dif_pos (by omega), dif_pos ⟨hlt, hS⟩]
  rw [Array.getElem?_eq_getElem hlt] at h
  exact h
theorem cell_vary {w : World} {S : Nat → Prop} {a : Addr} {v : Value} (h : w.cell? a = some v) (hS : ¬ S a.block) (p : Vary) : (vary w S p).cell? a = some v := by
  unfold World.cell? at *
  cases hb : w.heap[a.block]? with
  | none => rw [hb] at h; cases h
  | some o => rw [block_vary hb hS p]; rw [hb] at h; exact h
theorem vary_of_keep {w w' : World} {S : Nat → Prop} (h : Keep S w w') : ∃ p : Vary, w' = vary w S p := by
  refine ⟨⟨w'.drawn, w'.heap.size - w.heap.size, fun i => w'.heap[i]?.getD (.cells #[] 0)⟩, ?_⟩
  obtain ⟨heap', tape', drawn', os', output'⟩ := w'
  have e1 : os' = w.os := h.os
  have e2 : tape' = w.tape := h.tape
  have e3 : output' = w.output := h.output
  have hs : w.heap.size ≤ heap'.size := h.size
  have hb : ∀ k, k < w.heap.size → ¬ S k → heap'[k]? = w.heap[k]? := h.block
  subst e1 e2 e3
  unfold vary
  congr 1
  apply Array.ext_getElem?
  intro k
  rw [Array.getElem?_ofFn]
  by_cases hk : k < heap'.size
  · rw [dif_pos (show k < w.heap.size + (heap'.size - w.heap.size) by omega)]
    by_cases hk2 : k < w.heap.size ∧ ¬ S k
    · rw [dif_pos hk2, hb k hk2.1 hk2.2, Array.getElem?_eq_getElem hk2.1]
    · rw [dif_neg hk2]
      simp only [Array.getElem?_eq_getElem hk, Option.getD_some]
  · rw [dif_neg (show ¬ k < w.heap.size + (heap'.size - w.heap.size) by omega), Array.getElem?_eq_none (by omega)]

/-- Calls that turn blocks of S alone, beside reads that look elsewhere, in whatever order. -/
theorem regionK (S : Nat → Prop) {P : Program} {id : Nat} {l : List Oper} {Q : Exit → Act → World → Prop} {a : Act} {w : World} (hm : P.follows .mixedOrders = true) (hB : mixOk 2 l.toArray = true)
    (h : walk P l.toArray (fun _ w' => ∃ p : Vary, w' = vary w.drew S p) (fun w' => ∃ p : Vary, w' = vary w.drew S p) Q l a w.drew) : (Code.region id l.toArray true).wp P Q a w :=
  wp_region_walk (fun _ h => h) (fun h => by cases h) (fun _ _ _ => Iff.rfl) hm hB (vary_of_keep (Keep.refl S w.drew)) h
theorem walk_k {P : Program} {ops : Array Oper} {C : World → World → Prop} {w0 : World} {S : Nat → Prop} {Q : Exit → Act → World → Prop} {o : Oper} {rest : List Oper} {a : Act} {w : World} (he : effB o = true)
    (h : ∀ K : Act → World → Prop, Go.RowKit.Hid (∀ a w, Keep S w0 w → walk P ops C (fun w' => ∃ p : Vary, w' = vary w0 S p) Q rest a w → K a w) → wpList P ops (Exit.then K bot) [o] a w) :
    walk P ops C (fun w' => ∃ p : Vary, w' = vary w0 S p) Q (o :: rest) a w :=
  walk_j he fun K hK => h K fun a w hb hw => hK.out a w (vary_of_keep hb) hw
end Mix
end Go.Proofs.Ythognfmmjkmjnaa
