/- Slices that are laid or grown, structs that are put together, over an abstract state. Plain lemmas, over any program. -/
import Derived.Test.YtoooldijnilpaaaAi
namespace Go.Proofs.Ytoooldijnilpaaa
set_option linter.all false
open Go.RowKit
namespace AM
section
variable {P : Program} {c : Cx} {N : Nat} {s : St} {a : Act} {w : World} {K : St → Prop}

/-! ## Parts put into a row of cells -/
def putAt (cs : List V) (off : Nat) (xs : List V) : List V := cs.take off ++ xs ++ cs.drop (off + xs.length)
def fillV (place : Nat → Option (Nat × Nat)) (cs : List V) : List (Nat × V) → Option (List V)
  | [] => some cs
  | (i, v) :: rest => match place i with
    | none => none
    | some (off, size) => bif (V.cells v).length == size && Nat.ble (off + size) cs.length && (V.cells v).all V.one then fillV place (putAt cs off (V.cells v)) rest else none

theorem foldl_set (vs : List Value) : ∀ (arr : Array Value) (off k : Nat), off + k + vs.length ≤ arr.size →
    ((vs.zipIdx k).foldl (fun cs (p : Value × Nat) => cs.setIfInBounds (off + p.2) p.1) arr).toList = arr.toList.take (off + k) ++ vs ++ arr.toList.drop (off + k + vs.length) := by
  induction vs with
  | nil => intro arr off k h; simp
  | cons v vs ih =>
    intro arr off k h
    simp only [List.length_cons] at h
    rw [List.zipIdx_cons, List.foldl_cons, ih _ off (k + 1) (by simp; omega), Array.toList_setIfInBounds]
    have hlt : off + k < arr.toList.length := by simp; omega
    rw [show off + (k + 1) = off + k + 1 by omega, List.take_set, List.take_succ_eq_append_getElem hlt, List.drop_set_of_lt (by omega)]
    rw [List.set_append, if_neg (by simp; omega), List.length_take, Nat.min_eq_left (by omega), Nat.sub_self]
    simp only [List.set_cons_zero, List.append_assoc, List.cons_append, List.nil_append, List.length_cons]
    rw [show off + k + 1 + vs.length = off + k + (vs.length + 1) by omega]

theorem RelL.putAt {I : Nat → Nat → Option Value} {φ : List Nat} {cs xs : List V} {vs us : List Value} (h : RelL I φ cs vs) (k : RelL I φ xs us) (off : Nat) : RelL I φ (putAt cs off xs) (vs.take off ++ us ++ vs.drop (off + us.length)) := by
  unfold AM.putAt
  rw [← k.len]
  exact ((h.take off).append k).append (h.drop _)

/-- What is put in, part by part. -/
inductive Parts (I : Nat → Nat → Option Value) (φ : List Nat) : List (Nat × V) → List (Nat × Value) → Prop
  | nil : Parts I φ [] []
  | cons {i : Nat} {x : V} {v : Value} {xs : List (Nat × V)} {vs : List (Nat × Value)} : Rel I φ x v → Parts I φ xs vs → Parts I φ ((i, x) :: xs) ((i, v) :: vs)

theorem fillV_run {I : Nat → Nat → Option Value} {φ : List Nat} {place : Nat → Option (Nat × Nat)} : ∀ {ps : List (Nat × V)} {qs : List (Nat × Value)} {cs ds : List V} {arr : Array Value}, Parts I φ ps qs → RelL I φ cs arr.toList → (∀ v ∈ arr.toList, v.oneCell' = true) →
    fillV place cs ps = some ds → ∃ arr', Instr.fill place arr qs = some arr' ∧ RelL I φ ds arr'.toList ∧ arr'.size = arr.size ∧ ∀ v ∈ arr'.toList, v.oneCell' = true
  | _, _, cs, ds, arr, .nil, hc, h1, hf => by
    cases hf
    exact ⟨arr, rfl, hc, rfl, h1⟩
  | _, _, cs, ds, arr, .cons (i := i) (x := x) (v := v) (xs := xs) (vs := vs) hx hp, hc, h1, hf => by
    unfold fillV at hf
    unfold Instr.fill
    cases hpl : place i with
    | none => rw [hpl] at hf; cases hf
    | some p =>
      obtain ⟨off, size⟩ := p
      rw [hpl] at hf
      simp only at hf ⊢
      cases hb : ((V.cells x).length == size && Nat.ble (off + size) cs.length && (V.cells x).all V.one) with
      | false => rw [hb] at hf; cases hf
      | true =>
        rw [hb] at hf
        simp only [cond_true] at hf
        simp only [Bool.and_eq_true, beq_iff_eq] at hb
        obtain ⟨⟨b1, b2⟩, b3⟩ := hb
        have b2 := Nat.le_of_ble_eq_true b2
        have hcr := cells_rel hx b3
        have hsz : v.cells.size = size := by rw [← b1, hcr.len]; simp
        have hcl := hc.len
        simp only [Array.length_toList] at hcl
        rw [if_neg (by simp [hsz]; omega)]
        have hfold := foldl_set v.cells.toList arr off 0 (by simp [hsz]; omega)
        have e1 : Array.foldl (fun cs (x : Value × Nat) => match x with | (c, j) => cs.setIfInBounds (off + j) c) arr v.cells.zipIdx = ((v.cells.toList.zipIdx 0).foldl (fun cs (p : Value × Nat) => cs.setIfInBounds (off + p.2) p.1) arr) := by
          rw [← Array.foldl_toList, Array.toList_zipIdx]
        rw [e1]
        have hone := one_relL hcr b3
        have hput := hc.putAt hcr off
        simp only [Nat.add_zero] at hfold
        rw [← hfold] at hput
        obtain ⟨arr', k1, k2, k3, k4⟩ := fillV_run (place := place) hp hput (fun u hu => by
          rw [hfold] at hu
          rcases List.mem_append.1 hu with hu | hu
          · rcases List.mem_append.1 hu with hu | hu
            · exact h1 u (List.mem_of_mem_take hu)
            · exact hone u hu
          · exact h1 u (List.mem_of_mem_drop hu)) hf
        refine ⟨arr', k1, k2, ?_, k4⟩
        rw [k3, ← Array.length_toList, hfold]
        simp [hsz]
        omega

def partsV (s : St) : List (Nat × Operand) → Option (List (Nat × V))
  | [] => some []
  | (i, x) :: ps => match evalV s x, partsV s ps with
    | some v, some l => some ((i, v) :: l)
    | _, _ => none
theorem partsV_rel (h : Sim c N s a w) : ∀ {ps : List (Nat × Operand)} {l : List (Nat × V)}, partsV s ps = some l → Parts c.I c.φ l (ps.map fun (i, x) => (i, a.eval x))
  | [], l, hl => by cases hl; exact .nil
  | (i, x) :: ps, l, hl => by
    unfold partsV at hl
    cases hx : evalV s x with
    | none => rw [hx] at hl; cases hl
    | some v =>
      cases hp : partsV s ps with
      | none => rw [hx, hp] at hl; cases hl
      | some l' =>
        rw [hx, hp] at hl
        cases hl
        exact .cons (evalV_rel h hx) (partsV_rel h hp)

/-! ## A struct or an array is put together -/
def placesT (P : Program) : List Field → Option (List (Nat × Nat))
  | [] => some []
  | f :: fs => match sizeT P f.type, placesT P fs with
    | some n, some l => some ((f.offset, n) :: l)
    | _, _ => none
def placeOf (P : Program) (t : TypeId) : Option (Nat → Option (Nat × Nat)) := match P.underlying t with
  | some (.struct fs) => match placesT P fs.toList with
    | some l => some (fun i => l[i]?)
    | none => none
  | some (.array _ e) => match sizeT P e with
    | some n => some (fun i => some (i * n, n))
    | none => none
  | _ => none
def aBuild (P : Program) (N : Nat) (dst : Option Tmp) (t : TypeId) (parts : List (Nat × Operand)) (s : St) (K : St → Prop) : Prop := match zeroCs P t, partsV s parts, placeOf P t with
  | some zc, some ps, some place => match fillV place zc ps with
    | some cs => putK N dst (.v (.agg cs)) s K
    | none => False
  | _, _, _ => False

theorem run_places {w : World} : ∀ {fs : List Field} {l : List (Nat × Nat)}, placesT P fs = some l → (fs.mapM fun f => do pure (f.offset, ← sizeOf f.type) : Sem (List (Nat × Nat))).run P w = .ok l w
  | [], l, h => by cases h; simp
  | f :: fs, l, h => by
    unfold placesT at h
    cases hn : sizeT P f.type with
    | none => rw [hn] at h; cases h
    | some n =>
      cases hl : placesT P fs with
      | none => rw [hn, hl] at h; cases h
      | some l' =>
        rw [hn, hl] at h
        cases h
        simp only [List.mapM_cons, Sem.run_bind, run_sizeOf hn, Result.andThen_ok, Sem.run_pure, run_places hl]

theorem aBuild_reads {o : Oper} {t : TypeId} {parts : Array (Nat × Operand)} (ho : o.op = .build t parts) (h : Sim c N s a w) (hk : aBuild P N o.dst t parts.toList s K) : Reads P o a w (Post c w N K) := by
  unfold aBuild at hk
  split at hk
  · rename_i zc ps place hz hp hpl
    cases hf : fillV place zc ps with
    | none => rw [hf] at hk; exact hk.elim
    | some cs =>
      rw [hf] at hk
      unfold zeroCs at hz
      cases hzt : zeroT P t with
      | none => rw [hzt] at hz; cases hz
      | some z =>
        rw [hzt] at hz
        simp only at hz
        cases h1 : z.cells.toList.all (·.oneCell') with
        | false => rw [h1] at hz; cases hz
        | true =>
          rw [h1] at hz
          cases hz
          obtain ⟨arr', k1, k2, _, _⟩ := fillV_run (I := c.I) (φ := c.φ) (partsV_rel h hp) (relL_map ofCell_rel z.cells.toList) (fun v hv => List.all_eq_true.1 h1 v hv) hf
          refine ⟨.agg arr', fun w' _ => ?_, putK_post h hk fun _ _ => Rel.agg k2⟩
          have e1 : (parts.map fun (x : Nat × Operand) => match x with | (i, x) => (i, a.eval x)).toList = parts.toList.map fun (i, x) => (i, a.eval x) := by simp
          unfold placeOf at hpl
          cases hu : P.underlying t with
          | none => rw [hu] at hpl; cases hpl
          | some d =>
            rw [hu] at hpl
            cases d with
            | struct fs =>
              simp only at hpl
              cases hls : placesT P fs.toList with
              | none => rw [hls] at hpl; cases hpl
              | some l =>
                rw [hls] at hpl
                cases hpl
                have hm : (fs.mapM fun f => do pure (f.offset, ← sizeOf f.type) : Sem (Array (Nat × Nat))).run P w' = .ok l.toArray w' := by
                  have := run_places (P := P) (w := w') hls
                  rw [Array.mapM_eq_mapM_toList, Sem.run_map, this]
                  rfl
                unfold execOp
                simp only [ho, Instr.build, Sem.run_bind, run_zeroValue hzt, Result.andThen_ok, Sem.run_pure, run_underlying' hu, hm]
                rw [e1]
                have e2 : (fun x : Nat => l.toArray[x]?) = fun i => l[i]? := by funext i; simp
                simp only [e2, k1, Sem.run_pure, Result.andThen_ok]
            | array n e =>
              simp only at hpl
              cases hls : sizeT P e with
              | none => rw [hls] at hpl; cases hpl
              | some l =>
                rw [hls] at hpl
                cases hpl
                unfold execOp
                simp only [ho, Instr.build, Sem.run_bind, run_zeroValue hzt, Result.andThen_ok, Sem.run_pure, run_underlying' hu, run_sizeOf hls]
                rw [e1]
                simp only [k1, Sem.run_pure, Result.andThen_ok]
            | _ => cases hpl
  · exact hk.elim
end
end AM
end Go.Proofs.Ytoooldijnilpaaa
