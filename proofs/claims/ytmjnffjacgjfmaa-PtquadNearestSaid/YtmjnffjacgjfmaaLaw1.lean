/- Laws, arguments: what a claim asks of a row. -/
import Derived.Test.YtmjnffjacgjfmaaRows
import Derived.Test.YtmjnffjacgjfmaaBase
import Derived.ProofKit
import Derived.SizedLaws
import Derived.OpenShut
import Derived.Deep.Slices
import Derived.Test.YtmjnffjacgjfmaaAr1
namespace Go.Proofs.Ytmjnffjacgjfmaa
open Go.ChangeShapes Go.WideShapes Go.ChangeAt Go.RowKit

theorem own : ownKnob Try.prog.godebug = none := by kernel_rfl
theorem laidOut : laidOutB Try.prog = true := by kernel_rfl

section
variable {H : Type} {enc : TypeId × Value → H} {P : Program}
theorem trod_len {base : Nat} {spare : Nat → Bool} {held : Bool} {w : World} : ∀ {ts : List TypeId} {vs : List Value} {ds : List (DataW H)} {ps : List MemPlace}, DataW.TrodAll enc P w base spare held ts vs ds ps → ds.length = ts.length
  | [], _, _, _, h => by
    obtain ⟨rfl, rfl, _⟩ := trodAll_nil h
    rfl
  | _ :: _, _, _, _, h => by
    obtain ⟨v, vs', d, ds', p, q, rfl, rfl, rfl, _, h1⟩ := trodAll_cons h
    simp [trod_len h1]
theorem args_stay (hl : laidOutB P = true) {W W' : World} (hb : Below W.heap.size W W') {sp : Nat → Bool} : ∀ {ts : List TypeId} {vs : List Value} {ds : List (DataW H)} {ps : List MemPlace},
    (∀ t ∈ ts, P.readableRec t = true ∧ t < P.types.size) → DataW.TrodAll enc P W 0 (fun _ => true) true ts vs ds ps → (∀ x ∈ ps, x.block < W.heap.size) → (∀ x ∈ ps, sp x.block = true) →
    DataW.TrodAll enc P W' 0 sp true ts vs ds ps
  | [], vs, ds, ps, _, h, _, _ => by
    obtain ⟨rfl, rfl, rfl⟩ := trodAll_nil h
    exact trodAll_mk0
  | t :: ts, vs, ds, ps, ht, h, hlt, hsp => by
    obtain ⟨v, vs', d, ds', p, q, rfl, rfl, rfl, h0, h1⟩ := trodAll_cons h
    have ht0 := ht t (List.mem_cons_self ..)
    exact trodAll_cons_mk (WideElems.Trod_stays hl ht0.1 ht0.2 h0 (fun x hx => hb.same (hlt x (List.mem_append_left _ hx))) (fun x hx => hsp x (List.mem_append_left _ hx)))
      (args_stay hl hb (fun t h => ht t (List.mem_cons_of_mem _ h)) h1 (fun x hx => hlt x (List.mem_append_right _ hx)) (fun x hx => hsp x (List.mem_append_right _ hx)))

theorem post_of_below {f : Func} {s : ChangeSpec} {apart fresh handsOn again : Bool} {W W' : World} {args : Array Value} {v : Value} {ds gs : List (DataW H)} {before pa pv : List MemPlace}
    (hW : DataW.Whole enc P f.params.toList s.vars apart W args.toList ds gs before)
    (hres : ∀ (b : Nat) (sp : Nat → Bool) (hd : Bool), DataW.TrodAll enc P W' b sp hd f.resultTypes.toList (v.resultList f.resultTypes.size) (s.fn H (ds ++ gs)).results [])
    (hargs : ∀ sp : Nat → Bool, (∀ p ∈ before, sp p.block = true) → DataW.TrodAll enc P W' 0 sp true f.params.toList args.toList (s.fn H (ds ++ gs)).args pa)
    (hvars : ∀ sp : Nat → Bool, (∀ p ∈ before, sp p.block = true) → DataW.TrodVars enc P W' sp s.vars (s.fn H (ds ++ gs)).vars pv)
    (hps : before = pa ++ pv) (hb : Below W.heap.size W W')
    (hok : ∀ (j : Nat) (t : TypeId) (r : Value), f.resultTypes[j]? = some t → (v.resultList f.resultTypes.size)[j]? = some r → Value.okWide P W' .any 0 t r) :
    s.post enc P f apart fresh handsOn again W args v W' := by
  have hlt : ∀ p ∈ before, p.block < W.heap.size := fun p hp => hW.lt p hp
  have hold : ∀ p ∈ before, (fun b => decide (b < W.heap.size)) p.block = true := fun p hp => by simpa using hlt p hp
  refine ⟨ds, gs, before, [], pa, pv, hW, hres _ _ _, hargs _ hold, hvars _ hold, World.keptBut_mono (fun p hp => ⟨hp, ?_⟩) (hb.frame (· ∈ before)), fun _ => ?_⟩
  · rw [hps, List.mem_append] at hp
    exact Or.inr hp
  · obtain ⟨_, _, _, _, _, hz, hn⟩ := hW
    refine ⟨hok, _, _, ([] ++ pa) ++ pv, ⟨[] ++ pa, pv, trodAll_append (hargs _ (fun _ _ => rfl)) (hres _ _ _), hvars _ (fun _ _ => rfl), rfl, ?_, ?_⟩, ?_⟩
    · intro b off hp
      have hin : MemPlace.cell b off ∈ before := by rw [hps]; simpa using hp
      rw [hb.frozen (hlt _ hin)]
      exact hz b off hin
    · intro ha
      have := hn ha
      rw [hps] at this
      simpa using this
    · intro p hp _
      rw [hps]
      simpa using hp
end

set_option maxRecDepth 100000 in
/-- The law's row, out of its walk. -/
theorem law_lifted {f : FuncId} {fn : Func} {s : ChangeSpec} (hfn : Try.prog.funcs[f]? = some fn) (noInit : Try.prog.inits.idxOf? f = none) (hvars : s.vars = []) (hres : fn.resultTypes = #[4])
    (hts : ∀ t ∈ fn.params.toList, Try.prog.readableRec t = true ∧ t < Try.prog.types.size) (hs : ∀ (H : Type) (ds : List (DataW H)), ds.length = fn.params.toList.length → s.fn H ds = { results := [.lit (.bool true)], args := ds })
    (os : Os) (started : os.Started) (H : Type) (enc : TypeId × Value → H)
    (witness : ∃ (w : World) (tape : Tape) (i : Input), w.os = os ∧ (w.forCall tape i).Shaped Try.prog ∧ i.vars = [] ∧ Input.okWide Try.prog (w.forCall tape i) .any w.heap.size f i ∧
      s.pre6 enc Try.prog fn [] false (w.forCall tape i).memory i.args ∧ ({} : Assume).holds Try.prog (lone (Frame.enter Try.prog f i.args .normal) [] (w.forCall tape i)))
    (walk : ∀ (W : World) (base : Nat) (args : Array Value) (ds : List (DataW H)) (p : List MemPlace), (∀ (j : Nat) t v, fn.params[j]? = some t → args[j]? = some v → Value.okWide Try.prog W .any base t v) →
      DataW.TrodAll enc Try.prog W 0 (fun _ => true) true fn.params.toList args.toList ds p → (DataW.weightsEach Try.prog fn.params.toList ds).all (· ≤ reachBytes) = true → Calls Try.prog f args W (Yes W)) :
    ReturnsInHanded {} Try.checked os f .any (s.pre6 enc Try.prog fn [] false) (s.post enc Try.prog fn false true false false) := by
  refine returnsInHanded_of_change_sized (C := Try.checked) own started noInit hfn witness ?_
  intro W base args ds gs before hval hW _ hsz _
  have hW' := hW
  obtain ⟨p, q, hA, hV, rfl, hfz, hnd⟩ := hW
  have hA' : DataW.TrodAll enc Try.prog W 0 (fun _ => true) true fn.params.toList args.toList ds p := hA
  obtain ⟨rfl, rfl⟩ : gs = [] ∧ q = [] := by
    rw [hvars] at hV
    exact trodVars_none hV
  have hsz' : (DataW.weightsEach Try.prog fn.params.toList ds).all (· ≤ reachBytes) = true := by
    have e : s.plain.varTypes Try.prog = [] := by unfold DataSpec.varTypes; simp [ChangeSpec.plain, hvars]
    have h2 : (DataW.weightsEach Try.prog (fn.params.toList ++ s.plain.varTypes Try.prog) (ds ++ [])).all (· ≤ reachBytes) = true := hsz
    rw [e, List.append_nil, List.append_nil] at h2
    exact h2
  refine (walk W base args ds p hval hA' hsz').mono fun e W' ⟨he, hb⟩ => ?_
  subst he
  have hlen : ds.length = fn.params.toList.length := trod_len hA'
  have hfn' : s.fn H (ds ++ []) = { results := [.lit (.bool true)], args := ds } := by rw [List.append_nil]; exact hs H ds hlen
  have hlt : ∀ x ∈ p, x.block < W.heap.size := fun x hx => hW'.lt x (by simpa using hx)
  refine ⟨_, rfl, post_of_below (pa := p) (pv := []) hW' (fun b sp hd => ?_) (fun sp hsp => ?_) (fun sp _ => ?_) (by simp) hb ?_⟩
  · rw [hfn', hres]
    exact trodAll_cons_mk (shut_bool Try.underlying4 _) trodAll_mk0
  · rw [hfn']
    exact args_stay laidOut hb hts hA' hlt (fun x hx => hsp x (by simpa using hx))
  · rw [hvars, hfn']
    rfl
  · exact ok_one hres rfl (okWide_bool_mk Try.underlying4 _)
end Go.Proofs.Ytmjnffjacgjfmaa
namespace Go.Proofs.Ytmjnffjacgjfmaa
open Go.ChangeShapes Go.WideShapes Go.Deep

structure Fits (k : IntKind) (n : Int) : Prop where
  wf : (Lit.int k n).wf = true
inductive Leaf | int (k : IntKind) | bool | text
namespace Leaf
def ok : Leaf → Value → Prop
  | .int k, v => ∃ n, v = .int k n ∧ Fits k n
  | .bool, v => ∃ b, v = .bool b
  | .text, v => ∃ s : ByteArray, v = .string s ∧ s.size ≤ maxLen
def all : List Leaf → List Value → Prop
  | [], vs => vs = []
  | l :: ls, vs => ∃ v vs', vs = v :: vs' ∧ l.ok v ∧ all ls vs'
theorem all_append : ∀ {ls ms : List Leaf} {vs ws : List Value}, all ls vs → all ms ws → all (ls ++ ms) (vs ++ ws)
  | [], _, _, _, h, k => by
    cases h
    exact k
  | _ :: _, _, _, _, ⟨v, vs', rfl, h1, h2⟩, k => ⟨v, _, rfl, h1, all_append h2 k⟩
theorem all_length : ∀ {ls : List Leaf} {vs : List Value}, all ls vs → vs.length = ls.length
  | [], _, h => by cases h; rfl
  | _ :: _, _, ⟨v, vs', rfl, _, h2⟩ => by simp [all_length h2]
theorem int_cons {k : IntKind} {ls : List Leaf} {vs : List Value} (h : all (.int k :: ls) vs) : ∃ n vs', vs = .int k n :: vs' ∧ Fits k n ∧ all ls vs' := by
  obtain ⟨v, vs', rfl, ⟨n, rfl, hn⟩, h2⟩ := h
  exact ⟨n, vs', rfl, hn, h2⟩
theorem bool_cons {ls : List Leaf} {vs : List Value} (h : all (.bool :: ls) vs) : ∃ b vs', vs = .bool b :: vs' ∧ all ls vs' := by
  obtain ⟨v, vs', rfl, ⟨b, rfl⟩, h2⟩ := h
  exact ⟨b, vs', rfl, h2⟩
theorem text_cons {ls : List Leaf} {vs : List Value} (h : all (.text :: ls) vs) : ∃ s vs', vs = .string s :: vs' ∧ s.size ≤ maxLen ∧ all ls vs' := by
  obtain ⟨v, vs', rfl, ⟨s, rfl, hs⟩, h2⟩ := h
  exact ⟨s, vs', rfl, hs, h2⟩
theorem all_nil {vs : List Value} (h : all [] vs) : vs = [] := h
end Leaf

def leavesIn (P : Program) (g : TypeId → Option (List Leaf)) (size : Nat) : Nat → List Field → Option (List Leaf)
  | off, [] => if off = size then some [] else none
  | off, f :: fs => if f.offset = off then (g f.type).bind fun ls => if ls.length = P.cellsOf f.type then (leavesIn P g size (off + ls.length) fs).map (ls ++ ·) else none else none
def leavesOf (P : Program) : Nat → TypeId → Option (List Leaf)
  | 0, _ => none
  | n + 1, t =>
    match P.underlying t with
    | some .bool => some [.bool]
    | some (.int k) => some [.int k]
    | some .string => some [.text]
    | some (.struct fs) => leavesIn P (leavesOf P n) (P.cellsOf t) 0 fs.toList
    | _ => none

section
variable {H : Type} {enc : TypeId × Value → H} {P : Program} {w : World} {base : Nat} {spare : Nat → Bool} {held : Bool}

theorem leavesIn_read {g : TypeId → Option (List Leaf)} {size m : Nat} {cs : List Value} (hg : ∀ t ls n cs x, g t = some ls → DataW.trod enc P w base spare held n t cs = some x → Leaf.all ls cs) (hcs : cs.length = size) :
    ∀ (fs : List Field) (off : Nat) (ls : List Leaf), leavesIn P g size off fs = some ls → (∀ f ∈ fs, ∃ x, DataW.trod enc P w base spare held m f.type ((cs.drop f.offset).take (P.cellsOf f.type)) = some x) → Leaf.all ls (cs.drop off)
  | [], off, ls, h, _ => by
    unfold leavesIn at h
    split at h
    · cases h
      rename_i ho
      show cs.drop off = []
      rw [List.drop_eq_nil_of_le (by omega)]
    · cases h
  | f :: fs, off, ls, h, hf => by
    unfold leavesIn at h
    split at h
    · rename_i ho
      obtain ⟨l1, h1, h2⟩ := Option.bind_eq_some_iff.1 h
      split at h2
      · rename_i hl
        obtain ⟨l2, h3, rfl⟩ := Option.map_eq_some_iff.1 h2
        obtain ⟨x, hx⟩ := hf f (List.mem_cons_self ..)
        have a1 := hg f.type l1 m _ x h1 hx
        have a2 := leavesIn_read hg hcs fs _ l2 h3 (fun f h => hf f (List.mem_cons_of_mem _ h))
        have a3 := Leaf.all_append a1 a2
        rw [ho, hl, ← List.drop_drop, List.take_append_drop] at a3
        exact a3
      · cases h2
    · cases h

theorem leaves_read : ∀ (k : Nat) (t : TypeId) (ls : List Leaf) (n : Nat) (cs : List Value) (x : DataW H × List MemPlace), leavesOf P k t = some ls → DataW.trod enc P w base spare held n t cs = some x → Leaf.all ls cs
  | 0, _, _, _, _, _, h, _ => by cases h
  | k + 1, t, ls, n, cs, x, h, hx => by
    unfold leavesOf at h
    split at h
    · rename_i hu
      cases h
      obtain ⟨b, rfl, _⟩ := DataW.trod_bool hu hx
      exact ⟨_, _, rfl, ⟨b, rfl⟩, rfl⟩
    · rename_i hu
      cases h
      obtain ⟨n, rfl, _, hwf⟩ := DataW.trod_int hu hx
      exact ⟨_, _, rfl, ⟨n, rfl, ⟨hwf⟩⟩, rfl⟩
    · rename_i hu
      cases h
      obtain ⟨s, rfl, _, hs⟩ := DataW.trod_string hu hx
      exact ⟨_, _, rfl, ⟨s, rfl, hs⟩, rfl⟩
    · rename_i fs hu
      obtain ⟨xs, m, _, _, hl, hlen, hf⟩ := DataW.trod_struct hu hx
      have := leavesIn_read (enc := enc) (w := w) (base := base) (spare := spare) (held := held) (m := m) (fun t ls n cs x h h' => leaves_read k t ls n cs x h h') hl fs.toList 0 ls h (fun f hf' => by
        obtain ⟨i, hi⟩ := List.getElem?_of_mem hf'
        have hi' : fs[i]? = some f := by rw [← hi]; simp
        have hil : i < fs.size := by
          rcases Nat.lt_or_ge i fs.size with h | h
          · exact h
          · rw [Array.getElem?_eq_none h] at hi'; cases hi'
        exact ⟨xs[i]'(by omega), by rw [hf i f hi', List.getElem?_eq_getElem (by omega)]⟩)
      simpa using this
    · cases h

/-- A plain struct by value. -/
theorem plain_val {r : Reach} {b0 k : Nat} {t : TypeId} {fs : Array Field} {ls : List Leaf} {v : Value} {d : DataW H} {p : List MemPlace} (hs : P.underlying t = some (.struct fs)) (hl : leavesOf P k t = some ls)
    (hv : Value.okWide P w r b0 t v) (h : DataW.Trod enc P w base spare held t v d p) : ∃ cs : List Value, v = .agg cs.toArray ∧ Leaf.all ls cs := by
  obtain ⟨cs, rfl, _⟩ := okWide_struct hs hv
  obtain ⟨n, hn⟩ := h
  exact ⟨cs.toList, by simp, leaves_read k t ls n _ _ hl hn⟩

theorem block_of_cell {w : World} {a : Addr} {v : Value} (h : w.cell? a = some v) : a.block < w.heap.size ∧ a.spot = none := by
  unfold World.cell? at h
  split at h
  · rename_i hb
    refine ⟨?_, ?_⟩
    · rcases Nat.lt_or_ge a.block w.heap.size with h1 | h1
      · exact h1
      · rw [Array.getElem?_eq_none h1] at hb
        cases hb
    · cases hs : a.spot with
      | none => rfl
      | some x => rw [hs] at h; simp at h
  · cases h

theorem addr_add {a : Addr} (ha : a.spot = none) (n : Nat) : a.add n = ⟨a.block, a.off + n, none⟩ := by
  obtain ⟨b, o, s⟩ := a
  cases ha
  unfold Addr.add
  split
  · simp_all
  · rfl

/-- A slice of plain elements. -/
theorem plain_slice {α : Type} [Inhabited α] {k : Nat} {t e : TypeId} {ls : List Leaf} {v : Value} {d : DataW H} {p : List MemPlace} {cells : α → List Value} (ht : P.underlying t = some (.slice e)) (hl : leavesOf P k e = some ls) (hsz : 0 < P.cellsOf e)
    (hα : ∀ cs, Leaf.all ls cs → ∃ x : α, cells x = cs) (hone : ∃ a l c, v = .slice a l c) (h : DataW.Trod enc P w base spare held t v d p) : ∃ xs : List α, Sl w w.heap.size (P.cellsOf e) cells v xs := by
  obtain ⟨n, hn⟩ := h
  obtain ⟨A, L, C, rfl⟩ := hone
  rcases open_slice ht hn with ⟨h0, _⟩ | ⟨a, len, cap, m, n, D, Pl, hv, hb, hlc, hcm, hm, _, hx⟩
  · simp [Value.cells] at h0
    obtain ⟨rfl, rfl, rfl⟩ := h0
    exact ⟨[], Sl.nil⟩
  · simp [Value.cells] at hv
    obtain ⟨rfl, rfl, rfl⟩ := hv
    have hlm : L ≤ m := by rw [hm]; split <;> omega
    obtain ⟨f, hf⟩ := choose_lt (α := α) (n := L) (p := fun i x => w.cells? base (a.add (i * P.cellsOf e)) (P.cellsOf e) = some (cells x)) (fun i hi => by
      obtain ⟨cs', h1, h2⟩ := hx i (by omega)
      obtain ⟨x, hx⟩ := hα cs' (leaves_read k e ls _ _ _ hl h2)
      exact ⟨x, by rw [hx]; exact h1⟩)
    refine ⟨(List.range L).map f, some a, C, by simp, by simpa using hlc, hcm, fun h0 => ?_⟩
    simp at h0
    obtain ⟨_, hln, hc0⟩ := World.cells?_some (hf 0 h0)
    have h00 : w.cell? a = some ((cells (f 0))[0]'(by omega)) := by
      have := hc0 0 hsz
      rw [List.getElem?_eq_getElem (by omega)] at this
      simpa [Addr.add] using this
    obtain ⟨hab, hsp⟩ := block_of_cell h00
    refine ⟨a.block, a.off, ?_, hab, fun i x hx j u hu => ?_⟩
    · obtain ⟨b, o, s⟩ := a
      cases hsp
      rfl
    · have hi : i < L := by
        have := (List.getElem?_eq_some_iff.1 hx).1
        simpa using this
      simp [hi] at hx
      subst hx
      obtain ⟨_, hln, hci⟩ := World.cells?_some (hf i hi)
      have hj : j < P.cellsOf e := by
        have := (List.getElem?_eq_some_iff.1 hu).1
        omega
      have := hci j hj
      rw [hu, addr_add hsp, addr_add (by rfl)] at this
      exact this

theorem int_shape {k : IntKind} {t : TypeId} {r : Reach} {b0 : Nat} {v : Value} {d : DataW H} {p : List MemPlace} (ht : P.underlying t = some (.int k)) (hv : Value.okWide P w r b0 t v) (h : DataW.Trod enc P w base spare held t v d p) : ∃ n, v = .int k n ∧ Fits k n := by
  obtain ⟨n, hn⟩ := h
  obtain ⟨z, rfl⟩ := okWide_int ht hv
  obtain ⟨z', hz, _, hwf⟩ := DataW.trod_int ht hn
  simp [Value.cells] at hz
  subst hz
  exact ⟨z, rfl, ⟨hwf⟩⟩
end
end Go.Proofs.Ytmjnffjacgjfmaa
namespace Go.Proofs.Ytmjnffjacgjfmaa
set_option linter.all false
open Go.RowKit
/-- Where a cell of a row of rows stands. -/
theorem flat_find {α : Type} {cells : α → List Value} {sz : Nat} (hlen : ∀ x, (cells x).length = sz) {u : Value} : ∀ {xs : List α} {j : Nat}, (xs.flatMap cells)[j]? = some u → ∃ i x j', xs[i]? = some x ∧ (cells x)[j']? = some u ∧ j = i * sz + j'
  | [], j, h => by simp at h
  | x :: xs, j, h => by
    rw [List.flatMap_cons] at h
    by_cases hj : j < sz
    · rw [List.getElem?_append_left (by rw [hlen]; exact hj)] at h
      exact ⟨0, x, j, rfl, h, by simp⟩
    · rw [List.getElem?_append_right (by rw [hlen]; omega), hlen] at h
      obtain ⟨i, y, j', h1, h2, h3⟩ := flat_find hlen h
      refine ⟨i + 1, y, j', by simpa using h1, h2, ?_⟩
      rw [Nat.succ_mul]
      omega
namespace AM

/-- What a world's cells say. -/
def said (W : World) (b o : Nat) : Option Value := W.cell? ⟨b, o, none⟩
theorem AFn.yes {P : Program} {f : FuncId} {xs : List V} {vs : List Value} {W : World} {Q : V → List Bk → Prop} (h : AFn P f xs [] Q) (hq : ∀ y H, Q y H → y = .sc (.bool true)) (hr : RelL (said W) [] xs vs) : Calls P f vs.toArray W (Yes W) := by
  let c0 : Cx := ⟨said W, [], fun _ => .out⟩
  have hi0 : Inv c0 [] W := ⟨fun b o v hv => hv, rfl, fun b hb => absurd rfl hb, fun b b' r hb => (by cases hb), fun id b k hb hk => (by simp [c0] at hb)⟩
  refine (h.2 c0 W vs hi0 (fun b t e => by cases e) hr).mono fun e w' he => ?_
  obtain ⟨v, y, H', c', rfl, k1, k2, k3, k4, k5⟩ := he
  obtain rfl := hq _ _ k5
  refine ⟨by rw [Rel.exact k1 rfl], ⟨k4.os, k4.tape, k4.output, k4.size, fun k hk => (k4.out k hk rfl).1⟩⟩
theorem relL_sc {I : Nat → Nat → Option Value} {φ : List Nat} : ∀ {vs : List Value}, RelL I φ (vs.map .sc) vs
  | [] => .nil
  | v :: vs => .cons (.sc v) relL_sc
theorem relL_flat {α : Type} {I : Nat → Nat → Option Value} {φ : List Nat} {cells : α → List Value} : ∀ {xs : List α}, RelL I φ (xs.flatMap fun x => (cells x).map V.sc) (xs.flatMap cells)
  | [] => .nil
  | x :: xs => by
    simp only [List.flatMap_cons]
    exact RelL.append relL_sc relL_flat
end AM
section
open Go.ChangeShapes Go.WideShapes Go.Deep
variable {H : Type} {enc : TypeId × Value → H} {P : Program} {w : World} {base : Nat} {held : Bool}
/-- An argument that is a slice of plain elements. -/
theorem rel_slice {α : Type} [Inhabited α] {k : Nat} {t e : TypeId} {ls : List Leaf} {v : Value} {d : DataW H} {p : List MemPlace} {cells : α → List Value} (ht : P.underlying t = some (.slice e)) (hl : leavesOf P k e = some ls) (hsz : 0 < P.cellsOf e)
    (hα : ∀ cs, Leaf.all ls cs → ∃ x : α, cells x = cs) (hlen : ∀ x, (cells x).length = P.cellsOf e) (h1 : ∀ x, ∀ u ∈ cells x, u.oneCell' = true) (hone : ∃ a l c, v = .slice a l c) (h : DataW.Trod enc P w base (fun _ => true) held t v d p) :
    ∃ xs : List α, xs.length ≤ maxLen ∧ AM.Rel (AM.said w) [] (.sl xs.length (P.cellsOf e) (xs.flatMap fun x => (cells x).map .sc)) v := by
  obtain ⟨xs, A, c, rfl, hle, hc, hx⟩ := plain_slice ht hl hsz hα hone h
  refine ⟨xs, Nat.le_trans hle hc, ?_⟩
  by_cases h0 : c = 0
  · subst h0
    have : xs = [] := by
      cases xs with
      | nil => rfl
      | cons => simp at hle
    subst this
    exact .sl0
  · obtain ⟨n, hn⟩ := h
    have ha : ∃ b o, A = some ⟨b, o, none⟩ := by
      rcases open_slice ht hn with ⟨h0', _⟩ | ⟨a, len, cap, m, n, D, Pl, hv, hb, hlc, hcm, hm, _, hcell⟩
      · simp [Value.cells] at h0'
        exact absurd h0'.2.2 h0
      · simp [Value.cells] at hv
        obtain ⟨rfl, rfl, rfl⟩ := hv
        obtain ⟨cs', q1, _⟩ := hcell 0 (by rw [hm]; simp; omega)
        obtain ⟨_, hln, hci⟩ := World.cells?_some q1
        have := hci 0 hsz
        rw [List.getElem?_eq_getElem (by omega)] at this
        obtain ⟨_, hsp⟩ := block_of_cell (show w.cell? a = some _ by simpa [Addr.add] using this)
        obtain ⟨b, o, s⟩ := a
        cases hsp
        exact ⟨b, o, rfl⟩
    obtain ⟨b, o, rfl⟩ := ha
    refine .sl (vs := xs.flatMap cells) AM.relL_flat (fun j u hu => ?_) ?_ hle hc (fun u hu => ?_)
    · have hj := (List.getElem?_eq_some_iff.1 hu).1
      have hpos : 0 < xs.length := by
        cases xs with
        | nil => simp at hj
        | cons => simp
      obtain ⟨b', o', e, _, hcell⟩ := hx hpos
      cases e
      obtain ⟨i, x, j', hi, hj', e⟩ := flat_find (cells := cells) hlen hu
      subst e
      have := hcell i x hi j' u hj'
      rw [Nat.add_assoc] at this
      exact this
    · rw [AM.flat_len' (fun x => by rw [List.length_map, hlen x])]
    · obtain ⟨x, _, hu⟩ := List.mem_flatMap.1 hu
      exact h1 x u hu
end
end Go.Proofs.Ytmjnffjacgjfmaa
