/- Operations over an abstract state: reads, and what they say. Plain lemmas, over any program. -/
import Derived.Test.YtmjnffjacgjfmaaAa1
namespace Go.Proofs.Ytmjnffjacgjfmaa
set_option linter.all false
open Go.RowKit
namespace AM

/-- A run that looks at no memory. -/
def idle (P : Program) {α : Type} : Sem α → Option α
  | .pure a => some a
  | .program k => idle P (k P)
  | .mark _ k => idle P k
  | _ => none
theorem idle_run {P : Program} {α : Type} {s : Sem α} {a : α} (h : idle P s = some a) (w : World) : s.run P w = .ok a w := by
  induction s with
  | pure b => simp only [idle, Option.some.injEq] at h; subst h; rfl
  | program k ih => exact ih P h
  | mark m k ih => exact ih h
  | _ => simp [idle] at h
theorem idle_bind {P : Program} {α β : Type} (s : Sem α) (f : α → Sem β) : idle P (s >>= f) = (idle P s).bind fun a => idle P (f a) := by
  show idle P (s.bind f) = _
  induction s with
  | pure b => rfl
  | program k ih => exact ih P
  | mark m k ih => exact ih
  | _ => rfl

def eval (s : St) : Operand → Option SV
  | .tmp t => getF t s.F
  | .const v => some (.v (V.ofValue v))
  | .func f => some (.v (.fn (.func f) [] []))
  | .global _ => none
def evalV (s : St) (x : Operand) : Option V := match eval s x with
  | some (.v y) => some y
  | _ => none
def valOf (s : St) (x : Operand) : Option Value := match eval s x with
  | some (.v y) => y.exact
  | _ => none

/-- What becomes of a row that is moved or loaded into slot d: it is handed on to an append, only looked at, or shared. -/
inductive Use where
  | transfer
  | link
  | copy
def isT (d : Nat) : Operand → Bool
  | .tmp t => t == d
  | _ => false
def feeds (d : Nat) (o : Oper) : Bool := match o.op with
  | .call { callee := .builtin .append, args, .. } => match args[0]? with
    | some x => isT d x
    | none => false
  | _ => false
def looks (d : Nat) (o : Oper) : Bool := match o.op with
  | .indexAddr _ x _ => isT d x
  | .call { callee := .builtin .len, args, .. } => match args[0]? with
    | some x => isT d x
    | none => false
  | _ => false
/-- A row whose head is stored back. -/
def stows (d : Option Tmp) (o : Oper) : Bool := match o.op with
  | .store _ _ (.tmp u) => d == some u
  | _ => false
def shrinks (ops : List Oper) (d : Nat) (o : Oper) : Bool := match o.op with
  | .slice _ x none (some _) none => bif isT d x then ops.any (stows o.dst) else false
  | _ => false
def useOf (ops : List Oper) (d : Nat) : Use := bif ops.any (feeds d) then .transfer else bif ops.any (shrinks ops d) then .transfer else bif ops.any (stows (some d)) then .transfer else bif ops.any (looks d) then .link else .copy

def fitB (d : Nat) : SV → Bool
  | .v _ => true
  | .any => true
  | .own .. => false
  | .pth r _ => !(r == .slot d)
  | .lnk r _ => !(r == .slot d)

def putK (N : Nat) (dst : Option Tmp) (x : SV) (s : St) (K : St → Prop) : Prop := match dst with
  | some d => d < N ∧ fitB d x = true ∧ K ⟨putF d x s.F, s.H⟩
  | none => K s

/-- What holds behind a stretch: some state of the abstract kind. -/
def Post (c : Cx) (w : World) (N : Nat) (K : St → Prop) : Act → World → Prop := fun a' w' => ∃ c' s', Sim c' N s' a' w' ∧ Ext c w c' w' ∧ K s'

def Agree (w w' : World) : Prop := ∀ b, b < w.heap.size → w'.heap[b]? = w.heap[b]?
theorem Agree.refl (w : World) : Agree w w := fun _ _ => rfl
theorem Agree.cell {w w' : World} (h : Agree w w') {p : Addr} {v : Value} (hv : w.cell? p = some v) : w'.cell? p = some v := by
  rw [World.cell?_of_block (h p.block (World.block_lt_of_cell? w p hv))]; exact hv

section
variable {P : Program} {c : Cx} {N : Nat} {s : St} {a : Act} {w : World} {K : St → Prop}

theorem eval_rel {x : Operand} {y : SV} (h : Sim c N s a w) (hx : eval s x = some y) (r : Root) : (∃ t, x = .tmp t ∧ getF t s.F = some y ∧ a.tmps[t]? = some (a.eval x) ∧ SRel c w (.slot t) y (a.eval x)) ∨ (∃ z, y = .v z ∧ Rel c.I c.φ z (a.eval x)) := by
  cases x with
  | tmp t =>
    obtain ⟨v, hv, hr⟩ := h.fr t y (mem_getF hx)
    have e : a.eval (.tmp t) = v := by simp [Act.eval, hv]
    rw [e]
    exact .inl ⟨t, rfl, hx, hv, hr⟩
  | const v => cases hx; exact .inr ⟨_, rfl, ofValue_rel v⟩
  | func f => cases hx; exact .inr ⟨_, rfl, .fn (first' := #[]) (cap' := #[]) .nil .nil⟩
  | global g => cases hx

theorem evalV_rel {x : Operand} {y : V} (h : Sim c N s a w) (hx : evalV s x = some y) : Rel c.I c.φ y (a.eval x) := by
  unfold evalV at hx
  cases he : eval s x with
  | none => rw [he] at hx; cases hx
  | some z =>
    rw [he] at hx
    cases z with
    | v z =>
      cases hx
      rcases eval_rel h he (.slot 0) with ⟨t, _, _, _, hr⟩ | ⟨z', e, hr⟩
      · exact hr
      · cases e; exact hr
    | _ => cases hx
theorem valOf_eq {x : Operand} {v : Value} (h : Sim c N s a w) (hx : valOf s x = some v) : a.eval x = v := by
  unfold valOf at hx
  cases he : eval s x with
  | none => rw [he] at hx; cases hx
  | some z =>
    rw [he] at hx
    cases z with
    | v z =>
      rcases eval_rel h he (.slot 0) with ⟨t, _, _, _, hr⟩ | ⟨z', e, hr⟩
      · exact Rel.exact hr hx
      · cases e; exact Rel.exact hr hx
    | _ => cases hx

theorem fitB_fit {d : Nat} {x : SV} (h : fitB d x = true) : Fit d x := by
  cases x <;> first | trivial | (simp [fitB] at h; try exact h)

/-- A slot is filled by putK. -/
theorem putK_post {dst : Option Tmp} {x : SV} {v : Value} (h : Sim c N s a w) (hk : putK N dst x s K) (hx : ∀ d, dst = some d → SRel c w (.slot d) x v) : Post c w N K (a.put dst v) w := by
  cases dst with
  | none => exact ⟨c, s, h, Ext.refl c w, hk⟩
  | some d =>
    obtain ⟨h1, h2, h3⟩ := hk
    exact ⟨_, _, Sim.put (F := s.F) (H := s.H) h h1 (fitB_fit h2) (hx d rfl), Ext.free c w _, h3⟩

theorem Post.mono {K' : St → Prop} {a' : Act} {w' : World} (h : Post c w N K a' w') (hk : ∀ s, K s → K' s) : Post c w N K' a' w' := by
  obtain ⟨c', s', h1, h2, h3⟩ := h
  exact ⟨c', s', h1, h2, hk _ h3⟩

/-- An operation that only reckons or reads: one value in every world that has the blocks there are. -/
def memB : Op → Bool
  | .load .. => true
  | .lookup .. => true
  | .call { callee := .builtin .len, .. } => true
  | _ => false
def Reads (P : Program) (o : Oper) (a : Act) (w : World) (Q : Act → World → Prop) : Prop := ∃ v, (∀ w', (memB o.op = true → Agree w w') → (execOp a.eval o).run P w' = .ok (.value v) w') ∧ Q (a.put o.dst v) w

/-! ## A value is moved -/
def aMove (N : Nat) (ops : List Oper) (dst : Option Tmp) (x : Operand) (s : St) (K : St → Prop) : Prop := match eval s x with
  | some (.own pr e n sz cs) => match x, dst with
    | .tmp u, some d => d < N ∧ (u == d) = false ∧ (match useOf ops d with
      | .transfer => K ⟨putF d (.own pr e n sz cs) (del u s.F), s.H⟩
      | .link => K ⟨putF d (.lnk (.slot u) n) s.F, s.H⟩
      | .copy => K ⟨putF d (.v (.sl n sz cs)) (setF u (.own false e n sz cs) s.F), s.H⟩)
    | _, _ => False
  | some x => putK N dst x s K
  | none => False

theorem own_lnk {r : Root} {pr : Bool} {e n sz : Nat} {cs : List V} {v : Value} (h : SRel c w r (.own pr e n sz cs) v) : ∀ r', SRel c w r' (.lnk r n) v := by
  obtain ⟨h0, vs, h1, h2, h4, h3⟩ := h
  intro r'
  rcases h2.2 with ⟨rfl, rfl⟩ | ⟨g, cap, cur, rfl, _⟩
  · exact .inl ⟨rfl, rfl⟩
  · exact .inr ⟨g, cap, rfl, (h3 g rfl).1⟩

theorem SRel.any_root {r r' : Root} {x : SV} {v : Value} (h : SRel c w r x v) (hx : ∀ pr e n sz cs, x ≠ .own pr e n sz cs) : SRel c w r' x v := by
  cases x with
  | own pr e n sz cs => exact absurd rfl (hx pr e n sz cs)
  | _ => exact h

theorem eval_any {x : Operand} {y : SV} (h : Sim c N s a w) (hx : eval s x = some y) (hy : ∀ pr e n sz cs, y ≠ .own pr e n sz cs) (r : Root) : SRel c w r y (a.eval x) := by
  rcases eval_rel h hx r with ⟨t, _, _, _, hr⟩ | ⟨z, rfl, hr⟩
  · exact hr.any_root hy
  · exact hr

theorem aMove_post {ops : List Oper} {dst : Option Tmp} {x : Operand} (h : Sim c N s a w) (hk : aMove N ops dst x s K) : Post c w N K (a.put dst (a.eval x)) w := by
  unfold aMove at hk
  cases he : eval s x with
  | none => rw [he] at hk; exact hk.elim
  | some y =>
    rw [he] at hk
    cases y with
    | own pr e n sz cs =>
      rcases eval_rel h he (.slot 0) with ⟨t, rfl, hg, hv, hr⟩ | ⟨z, e', _⟩
      · cases dst with
        | none => exact hk.elim
        | some d =>
          obtain ⟨h1, h2, h3⟩ := hk
          have hne : t ≠ d := by simpa using h2
          cases hu : useOf ops d with
          | transfer =>
            simp only [hu] at h3
            obtain ⟨c', v, k1, k2, k3⟩ := Sim.hand (F := s.F) (H := s.H) h hg h1
            rw [hv] at k1
            cases k1
            exact ⟨_, _, k2, k3, h3⟩
          | link =>
            simp only [hu] at h3
            exact ⟨_, _, Sim.put (F := s.F) (H := s.H) h h1 (x := .lnk (.slot t) n) (fun e => hne (by injection e)) (own_lnk hr _), Ext.free c w _, h3⟩
          | copy =>
            simp only [hu] at h3
            obtain ⟨c', v, k1, k2, k3, k4⟩ := Sim.share (F := s.F) (H := s.H) h hg
            rw [hv] at k1
            cases k1
            exact ⟨_, _, k3.put h1 (x := .v (.sl n sz cs)) trivial k2, k4.trans (Ext.free c' w _), h3⟩
      · cases e'
    | v z => exact putK_post h hk fun d _ => eval_any h he (fun _ _ _ _ _ e => by cases e) _
    | pth r o => exact putK_post h hk fun d _ => eval_any h he (fun _ _ _ _ _ e => by cases e) _
    | lnk r o => exact putK_post h hk fun d _ => eval_any h he (fun _ _ _ _ _ e => by cases e) _
    | any => exact putK_post h hk fun d _ => eval_any h he (fun _ _ _ _ _ e => by cases e) _

def aAssign (N : Nat) (dst : Option Tmp) (x : Operand) (s : St) (K : St → Prop) : Prop := match eval s x with
  | some (.own pr e n sz cs) => match x, dst with
    | .tmp u, some d => d < N ∧ K ⟨putF d (.own pr e n sz cs) (del u s.F), s.H⟩
    | _, _ => False
  | some x => putK N dst x s K
  | none => False
theorem aAssign_post {dst : Option Tmp} {x : Operand} (h : Sim c N s a w) (hk : aAssign N dst x s K) : Post c w N K (a.put dst (a.eval x)) w := by
  unfold aAssign at hk
  cases he : eval s x with
  | none => rw [he] at hk; exact hk.elim
  | some y =>
    rw [he] at hk
    cases y with
    | own pr e n sz cs =>
      rcases eval_rel h he (.slot 0) with ⟨t, rfl, hg, hv, hr⟩ | ⟨z, e', _⟩
      · cases dst with
        | none => exact hk.elim
        | some d =>
          obtain ⟨h1, h3⟩ := hk
          obtain ⟨c', v, k1, k2, k3⟩ := Sim.hand (F := s.F) (H := s.H) h hg h1
          rw [hv] at k1
          cases k1
          exact ⟨_, _, k2, k3, h3⟩
      · cases e'
    | v z => exact putK_post h hk fun d _ => eval_any h he (fun _ _ _ _ _ e => by cases e) _
    | pth r o => exact putK_post h hk fun d _ => eval_any h he (fun _ _ _ _ _ e => by cases e) _
    | lnk r o => exact putK_post h hk fun d _ => eval_any h he (fun _ _ _ _ _ e => by cases e) _
    | any => exact putK_post h hk fun d _ => eval_any h he (fun _ _ _ _ _ e => by cases e) _

/-! ## What is reckoned from values that stand whole in themselves -/
def genB : Op → Bool
  | .pick .. | .binOp .. | .unOp .. | .convert .. | .makeInterface .. | .field .. | .index .. | .extract .. | .slice .. | .typeAssert .. | .build .. | .nilCheck _ => true
  | .call { callee := .builtin b, .. } => match b with
    | .len | .cap | .min | .max => true
    | _ => false
  | _ => false
def rho (s : St) (x : Operand) : Value := (valOf s x).getD undef
def exactV (P : Program) (s : St) (o : Oper) : Option Value :=
  bif genB o.op && o.op.operands.toList.all (fun x => (valOf s x).isSome) then
    match idle P (execOp (rho s) o) with
    | some (.value v) => some v
    | _ => none
  else none
theorem exactV_run {o : Oper} {v : Value} (h : Sim c N s a w) (hv : exactV P s o = some v) (w' : World) : (execOp a.eval o).run P w' = .ok (.value v) w' := by
  unfold exactV at hv
  cases hc : (genB o.op && o.op.operands.toList.all (fun x => (valOf s x).isSome)) with
  | false => rw [hc] at hv; cases hv
  | true =>
    rw [hc] at hv
    simp only [Bool.and_eq_true, List.all_eq_true] at hc
    obtain ⟨h1, h2⟩ := hc
    have hs : ∀ cs b, o.op ≠ .select cs b := fun cs b e => by rw [e] at h1; cases h1
    rw [execOp_congr o hs (ρ := a.eval) (ρ' := rho s) fun x hx => by
      have h3 := h2 x (by simpa using hx)
      cases hx' : valOf s x with
      | none => rw [hx'] at h3; cases h3
      | some u => rw [valOf_eq h hx']; simp [rho, hx']]
    simp only [cond_true] at hv
    cases hi : idle P (execOp (rho s) o) with
    | none => rw [hi] at hv; cases hv
    | some n =>
      rw [hi] at hv
      cases n with
      | value u => cases hv; exact idle_run hi w'
      | _ => cases hv

theorem aGen_reads {o : Oper} {v : Value} (h : Sim c N s a w) (hv : exactV P s o = some v) (hk : putK N o.dst (.v (.ofValue v)) s K) : Reads P o a w (Post c w N K) :=
  ⟨v, fun w' _ => exactV_run h hv w', putK_post h hk fun _ _ => ofValue_rel v⟩
end
end AM
end Go.Proofs.Ytmjnffjacgjfmaa
namespace Go.Proofs.Ytmjnffjacgjfmaa
set_option linter.all false
open Go.RowKit
namespace AM
section
variable {P : Program} {c : Cx} {N : Nat} {s : St} {a : Act} {w : World} {K : St → Prop}

def aggT (P : Program) (t : TypeId) : Option Bool := match P.underlying t with
  | some (.struct _) => some true
  | some (.array _ _) => some true
  | some _ => some false
  | none => none
def sizeT (P : Program) (t : TypeId) : Option Nat := (P.info? t).map (·.size)

theorem run_isAgg {t : TypeId} {b : Bool} (h : aggT P t = some b) (w : World) : (isAgg t).run P w = .ok b w := by
  unfold aggT at h
  unfold isAgg underlying program
  cases hu : P.underlying t with
  | none => rw [hu] at h; cases h
  | some d =>
    rw [hu] at h
    simp only [Sem.run_bind, Sem.run, Result.andThen_ok, hu]
    cases d <;> simp_all
theorem run_sizeOf {t : TypeId} {n : Nat} (h : sizeT P t = some n) (w : World) : (sizeOf t).run P w = .ok n w := by
  unfold sizeT at h
  unfold sizeOf typeInfo program
  cases hu : P.info? t with
  | none => rw [hu] at h; cases h
  | some d =>
    rw [hu] at h
    simp only [Option.map_some, Option.some.injEq] at h
    simp only [Sem.run_bind, Sem.run, Result.andThen_ok, hu, Sem.run_pure, h]

theorem run_loadCellsFrom {b off : Nat} : ∀ (n i : Nat) (acc : Array Value) (vs : List Value), vs.length = n → (∀ j u, vs[j]? = some u → w.cell? ⟨b, off + i + j, none⟩ = some u) → (loadCellsFrom ⟨b, off, none⟩ i n acc).run P w = .ok (acc ++ vs.toArray) w
  | 0, i, acc, vs, hl, h => by
    have : vs = [] := List.eq_nil_of_length_eq_zero hl
    subst this
    simp [loadCellsFrom]
  | n + 1, i, acc, v :: vs, hl, h => by
    have h0 := h 0 v rfl
    have ih := run_loadCellsFrom n (i + 1) (acc.push v) vs (by simpa using hl) (fun j u hu => by have := h (j + 1) u (by simpa using hu); rwa [show off + i + (j + 1) = off + (i + 1) + j by omega] at this)
    unfold loadCellsFrom
    have e : (load ((⟨b, off, none⟩ : Addr).add i)).run P w = .ok v w := by
      have ea : (⟨b, off, none⟩ : Addr).add i = ⟨b, off + i, none⟩ := by
        unfold Addr.add
        split
        · subst_vars; rfl
        · rfl
      rw [ea]
      simp only [Nat.add_zero] at h0
      simp [load, Sem.run, h0]
    rw [Sem.run_bind, e, Result.andThen_ok, ih]
    simp
  | n + 1, i, acc, [], hl, h => by simp at hl

def ldV (agg : Bool) (n : Nat) (cs : List V) : Option V := bif agg then (bif Nat.ble n cs.length then some (.agg (cs.take n)) else none) else cs.head?

theorem run_loadAt {t : TypeId} {agg : Bool} {n b off : Nat} {cs : List V} {vs : List Value} {y : V} (ha : aggT P t = some agg) (hn : sizeT P t = some n) (hr : RelL c.I c.φ cs vs) (hc : ∀ j u, vs[j]? = some u → w.cell? ⟨b, off + j, none⟩ = some u)
    (hy : ldV agg n cs = some y) : ∃ v, Rel c.I c.φ y v ∧ ∀ w', Agree w w' → (Instr.loadAt t (.pointer (some ⟨b, off, none⟩))).run P w' = .ok v w' := by
  unfold ldV at hy
  cases agg with
  | true =>
    simp only [cond_true] at hy
    cases hle : Nat.ble n cs.length with
    | false => rw [hle] at hy; cases hy
    | true =>
      rw [hle] at hy
      cases hy
      have hle : n ≤ cs.length := Nat.le_of_ble_eq_true hle
      refine ⟨.agg (vs.take n).toArray, .agg (by simpa using hr.take n), fun w' hw => ?_⟩
      have h1 := run_loadCellsFrom (P := P) (w := w') (b := b) (off := off) n 0 #[] (vs.take n) (by rw [List.length_take, ← hr.len]; omega) (fun j u hu => by
        rw [List.getElem?_take] at hu
        split at hu
        · exact hw.cell (hc j u hu)
        · cases hu)
      simp only [Instr.loadAt, Instr.sureAddr, Sem.run_bind, Sem.run_pure, Result.andThen_ok, loadVar, run_isAgg ha, if_true, run_sizeOf hn, loadCells, h1, Array.empty_append]
  | false =>
    simp only [cond_false] at hy
    cases cs with
    | nil => cases hy
    | cons x xs =>
      cases hy
      cases hr with
      | cons h1 h2 =>
        rename_i v vs
        refine ⟨v, h1, fun w' hw => ?_⟩
        have h3 := hw.cell (hc 0 v rfl)
        simp only [Nat.add_zero] at h3
        simp only [Instr.loadAt, Instr.sureAddr, Sem.run_bind, Sem.run_pure, Result.andThen_ok, loadVar, run_isAgg ha, Bool.false_eq_true, if_false]
        simp [load, Sem.run, h3]

/-! ## load -/
def aLoadOwn (N : Nat) (ops : List Oper) (dst : Option Tmp) (p : SV) (s : St) (K : St → Prop) : Prop := match p, dst with
  | .v (.ptr id off), some d => match s.H[id]? with
    | some (.cells ks) => match ks[off]? with
      | some (.own pr e n sz cs) => d < N ∧ (match useOf ops d with
        | .transfer => K ⟨putF d (.own pr e n sz cs) (delR (.cell id off) s.F), setBlk s.H id off .any⟩
        | .link => K ⟨putF d (.lnk (.cell id off) n) s.F, s.H⟩
        | .copy => K ⟨putF d (.v (.sl n sz cs)) s.F, setBlk s.H id off (.own false e n sz cs)⟩)
      | _ => False
    | _ => False
  | _, _ => False
/-! ## Cells read with the rows that stand in them -/
/-- What a cell shows when it is read beside others: a row that is shared is a slice. -/
def sharedV : SV → Option V
  | .v x => some (match x with
    | .fs n sz cs => .sl n sz cs
    | x => x)
  | .own false _ n sz cs => some (.sl n sz cs)
  | _ => none
def shares : List SV → List V
  | [] => []
  | x :: xs => match sharedV x with
    | some y => y :: shares xs
    | none => []
theorem own_sl {r : Root} {e n sz : Nat} {cs : List V} {v : Value} (h : SRel c w r (.own false e n sz cs) v) : Rel c.I c.φ (.sl n sz cs) v := by
  obtain ⟨h0, vs, h1, h2, h4, h3⟩ := h
  rcases h2.2 with ⟨rfl, rfl⟩ | ⟨g, cap, cur, rfl, _, g1, g2, g3, g4, g5⟩
  · obtain ⟨rfl, rfl⟩ := nil_of h1 h2
    exact .sl0
  · refine .sl h1 (fun j u hu => ?_) (by rw [h1.len, h2.1]) g2 g3 h4
    have := (h3 g rfl).2 j
    rw [Nat.zero_add]
    rw [this]
    simpa using hu
theorem fs_sl' {I : Nat → Nat → Option Value} {φ : List Nat} {n sz : Nat} {cs : List V} {v : Value} (h : Rel I φ (.fs n sz cs) v) : Rel I φ (.sl n sz cs) v := by
  cases h with
  | fs h1 h2 h3 h4 h5 => exact .sl h1 h2 h3 (Nat.le_refl _) h4 h5
  | fs0 => exact .sl0
theorem sharedV_rel {r : Root} {x : SV} {y : V} {v : Value} (h : SRel c w r x v) (hx : sharedV x = some y) : Rel c.I c.φ y v := by
  cases x with
  | v x =>
    simp only [sharedV, Option.some.injEq] at hx
    subst hx
    split
    · exact fs_sl' h
    · exact h
  | own pr e n sz cs =>
    cases pr with
    | true => cases hx
    | false =>
      cases hx
      exact own_sl h
  | _ => cases hx
theorem shares_get : ∀ {xs : List SV} {j : Nat} {y : V}, (shares xs)[j]? = some y → ∃ x, xs[j]? = some x ∧ sharedV x = some y
  | [], j, y, h => by simp [shares] at h
  | x :: xs, j, y, h => by
    unfold shares at h
    cases hx : sharedV x with
    | none => rw [hx] at h; simp at h
    | some z =>
      rw [hx] at h
      cases j with
      | zero => simp at h; subst h; exact ⟨x, rfl, hx⟩
      | succ j => simpa using shares_get (xs := xs) (by simpa using h)
theorem shares_len : ∀ {xs : List SV}, (shares xs).length ≤ xs.length
  | [] => by simp [shares]
  | x :: xs => by
    unfold shares
    cases sharedV x with
    | none => simp
    | some z => simpa using shares_len
def sharesAt (H : List Bk) (p : SV) : Option (List V) := match p with
  | .v (.ptr id off) => match H[id]? with
    | some (.cells ks) => some (shares (ks.drop off))
    | _ => none
  | _ => none
theorem read_shares {s : St} {p : SV} {r : Root} {v : Value} {cs : List V} (h : Sim c N s a w) (hp : SRel c w r p v) (hc : sharesAt s.H p = some cs) :
    ∃ b off vs, v = .pointer (some ⟨b, off, none⟩) ∧ RelL c.I c.φ cs vs ∧ (∀ j u, vs[j]? = some u → w.cell? ⟨b, off + j, none⟩ = some u) ∧ ∀ u ∈ vs, u.oneCell' = true := by
  unfold sharesAt at hc
  split at hc
  · rename_i id off
    split at hc
    · rename_i ks hk
      cases hc
      cases hp with
      | @ptr _ _ b hb =>
        obtain ⟨_, _, arr, e, g1, g2, g6, g3⟩ := h.inv.blk id b _ hb hk
        have hlen : (shares (ks.drop off)).length ≤ arr.size - off := by
          rw [g2]
          have := shares_len (xs := ks.drop off)
          simpa using this
        refine ⟨b, off, (arr.toList.drop off).take (shares (ks.drop off)).length, rfl, ?_, fun j u hu => ?_, fun u hu => g6 u (List.mem_of_mem_drop (List.mem_of_mem_take hu))⟩
        · refine .of_get (by simp; omega) fun j x v hx hv => ?_
          obtain ⟨y, h1, h2⟩ := shares_get hx
          rw [List.getElem?_drop] at h1
          rw [List.getElem?_take] at hv
          split at hv
          · rw [List.getElem?_drop] at hv
            exact sharedV_rel (g3 (off + j) _ v h1 (by simpa using hv)).2 h2
          · cases hv
        · rw [List.getElem?_take] at hu
          split at hu
          · rw [List.getElem?_drop] at hu
            simp [World.cell?, g1]
            simpa using hu
          · cases hu
    · cases hc
  · cases hc
def aLoadS (N : Nat) (dst : Option Tmp) (n : Nat) (p : SV) (s : St) (K : St → Prop) : Prop := match sharesAt s.H p with
  | some cs => match ldV true n cs with
    | some y => putK N dst (.v y) s K
    | none => False
  | none => False
def aLoad (P : Program) (N : Nat) (ops : List Oper) (dst : Option Tmp) (t : TypeId) (x : Operand) (s : St) (K : St → Prop) : Prop := match eval s x, aggT P t, sizeT P t with
  | some p, some agg, some n => match cellsAt s p with
    | some cs => match ldV agg n cs with
      | some y => putK N dst (.v y) s K
      | none => bif agg then aLoadS N dst n p s K else aLoadOwn N ops dst p s K
    | none => False
  | _, _, _ => False

theorem eval_ptr {x : Operand} {p : SV} {cs : List V} (h : Sim c N s a w) (hx : eval s x = some p) (hc : cellsAt s p = some cs) :
    ∃ b off vs, a.eval x = .pointer (some ⟨b, off, none⟩) ∧ RelL c.I c.φ cs vs ∧ (∀ j u, vs[j]? = some u → w.cell? ⟨b, off + j, none⟩ = some u) ∧ ∀ u ∈ vs, u.oneCell' = true := by
  rcases eval_rel h hx (.slot 0) with ⟨t, _, _, _, hr⟩ | ⟨z, rfl, hr⟩
  · exact read_cells h hr hc
  · exact read_cells (r := .slot 0) (p := .v z) h hr hc

theorem aLoad_reads {o : Oper} {t : TypeId} {x : Operand} {ops : List Oper} (ho : o.op = .load t x) (h : Sim c N s a w) (hk : aLoad P N ops o.dst t x s K) : Reads P o a w (Post c w N K) := by
  unfold aLoad at hk
  cases he : eval s x with
  | none => rw [he] at hk; exact hk.elim
  | some p =>
    cases ha : aggT P t with
    | none => rw [he, ha] at hk; exact hk.elim
    | some agg =>
      cases hn : sizeT P t with
      | none => rw [he, ha, hn] at hk; exact hk.elim
      | some n =>
        rw [he, ha, hn] at hk
        simp only at hk
        cases hc : cellsAt s p with
        | none => rw [hc] at hk; exact hk.elim
        | some cs =>
          rw [hc] at hk
          simp only at hk
          obtain ⟨b, off, vs, h1, h2, h3, _⟩ := eval_ptr h he hc
          cases hl : ldV agg n cs with
          | some y =>
            rw [hl] at hk
            obtain ⟨v, h4, h5⟩ := run_loadAt (P := P) ha hn h2 h3 hl
            refine ⟨v, fun w' hw => ?_, putK_post h hk fun _ _ => h4⟩
            have hw := hw (by rw [ho]; rfl)
            unfold execOp
            simp only [ho, h1, Sem.run_bind, h5 w' hw, Result.andThen_ok, Sem.run_pure]
          | none =>
            rw [hl] at hk
            cases agg with
            | true =>
              simp only [cond_true] at hk
              unfold aLoadS at hk
              cases hsh : sharesAt s.H p with
              | none => rw [hsh] at hk; exact hk.elim
              | some cs2 =>
                rw [hsh] at hk
                simp only at hk
                cases hl2 : ldV true n cs2 with
                | none => rw [hl2] at hk; exact hk.elim
                | some y =>
                  rw [hl2] at hk
                  have hq : ∃ r, SRel c w r p (a.eval x) := by
                    rcases eval_rel h he (.slot 0) with ⟨t, _, _, _, hr⟩ | ⟨z, rfl, hr⟩
                    · exact ⟨_, hr⟩
                    · exact ⟨.slot 0, hr⟩
                  obtain ⟨r, hq⟩ := hq
                  obtain ⟨b', off', vs', e1, e2, e3, _⟩ := read_shares h hq hsh
                  obtain ⟨v, h4, h5⟩ := run_loadAt (P := P) ha hn e2 e3 hl2
                  refine ⟨v, fun w' hw => ?_, putK_post h hk fun _ _ => h4⟩
                  have hw := hw (by rw [ho]; rfl)
                  unfold execOp
                  simp only [ho, e1, Sem.run_bind, h5 w' hw, Result.andThen_ok, Sem.run_pure]
            | false =>
            simp only [cond_false] at hk
            unfold aLoadOwn at hk
            cases p with
            | v z =>
              cases z with
              | ptr id off =>
                cases hd : o.dst with
                | none => rw [hd] at hk; exact hk.elim
                | some d =>
                  rw [hd] at hk
                  simp only at hk
                  cases hk' : s.H[id]? with
                  | none => rw [hk'] at hk; exact hk.elim
                  | some blk =>
                    by_cases hck : ∃ cs, blk = .cells cs
                    rotate_left
                    · rw [hk'] at hk; cases blk <;> first | exact absurd ⟨_, rfl⟩ hck | cases hk | exact hk.elim
                    obtain ⟨ks, rfl⟩ := hck
                    rw [hk'] at hk
                    simp only at hk
                    cases hj : ks[off]? with
                    | none => rw [hj] at hk; exact hk.elim
                    | some y =>
                      cases y with
                      | own pr e n' sz cs' =>
                        rw [hj] at hk
                        obtain ⟨h6, h7⟩ := hk
                        have hp : Rel c.I c.φ (.ptr id off) (a.eval x) := by
                          rcases eval_rel h he (.slot 0) with ⟨t, _, _, _, hr⟩ | ⟨z, e', hr⟩
                          · exact hr
                          · cases e'; exact hr
                        rw [h1] at hp
                        cases hp with
                        | ptr hb =>
                          have run : ∀ u w', Agree w w' → w.cell? ⟨b, off, none⟩ = some u → (execOp a.eval o).run P w' = .ok (.value u) w' := by
                            intro u w' hw hu
                            have h8 := hw.cell hu
                            unfold execOp
                            simp only [ho, h1, Instr.loadAt, Instr.sureAddr, Sem.run_bind, Sem.run_pure, Result.andThen_ok, loadVar, run_isAgg ha, Bool.false_eq_true, if_false]
                            simp [load, Sem.run, h8]
                          unfold Reads
                          rw [hd]
                          cases hu : useOf ops d with
                          | transfer =>
                            simp only [hu] at h7
                            obtain ⟨c', u, k1, k2, k3⟩ := Sim.take (F := s.F) (H := s.H) h hb hk' hj h6
                            exact ⟨u, fun w' hw => run _ w' (hw (by rw [ho]; rfl)) k1, _, _, k2, k3, h7⟩
                          | link =>
                            simp only [hu] at h7
                            obtain ⟨_, _, arr, e', g1, g2, _, g3⟩ := h.inv.blk id b _ hb hk'
                            have hlt : off < arr.size := by rw [g2]; exact (List.getElem?_eq_some_iff.1 hj).1
                            have hcell : w.cell? ⟨b, off, none⟩ = some arr[off] := by simp [World.cell?, g1, hlt]
                            exact ⟨_, fun w' hw => run _ w' (hw (by rw [ho]; rfl)) hcell, _, _, Sim.put (F := s.F) (H := s.H) h h6 (x := .lnk (.cell id off) n') (fun e => by cases e) (own_lnk (g3 off _ _ hj (Array.getElem?_eq_getElem hlt)).2 _), Ext.free c w _, h7⟩
                          | copy =>
                            simp only [hu] at h7
                            obtain ⟨c', u, k1, k2, k3, k4, _⟩ := Sim.shareCell (F := s.F) (H := s.H) h hb hk' hj
                            exact ⟨u, fun w' hw => run _ w' (hw (by rw [ho]; rfl)) k1, _, _, k3.put h6 (x := .v (.sl n' sz cs')) trivial k2, k4.trans (Ext.free c' w _), h7⟩
                      | _ => rw [hj] at hk; exact hk.elim
              | _ => exact hk.elim
            | _ => exact hk.elim

/-! ## addresses -/
def shift (x : SV) (o : Nat) : Option SV := match x with
  | .v (.ptr id off) => some (.v (.ptr id (off + o)))
  | .v (.rd cs) => some (.v (.rd (cs.drop o)))
  | .pth r off => some (.pth r (off + o))
  | _ => none
theorem shift_rel {x y : SV} {o : Nat} {r : Root} {v : Value} (h : SRel c w r x v) (hs : shift x o = some y) : ∃ b off, v = .pointer (some ⟨b, off, none⟩) ∧ ∀ r', SRel c w r' y (.pointer (some ⟨b, off + o, none⟩)) := by
  unfold shift at hs
  split at hs
  · cases hs
    cases h with
    | ptr hb => exact ⟨_, _, rfl, fun _ => .ptr hb⟩
  · cases hs
    cases h with
    | rd h1 h2 h3 => exact ⟨_, _, rfl, fun _ => Rel.rd (h1.drop o) (fun j u hu => by rw [List.getElem?_drop] at hu; have := h2 _ u hu; rwa [← Nat.add_assoc] at this) (fun u hu => h3 u (List.mem_of_mem_drop hu))⟩
  · cases hs
    obtain ⟨b, rfl, hb⟩ := h
    exact ⟨b, _, rfl, fun _ => ⟨b, rfl, hb⟩⟩
  · cases hs
theorem shift_fit {x y : SV} {o d : Nat} (hs : shift x o = some y) : ∀ pr e n sz cs, y ≠ .own pr e n sz cs := by
  unfold shift at hs
  split at hs <;> cases hs <;> intro _ _ _ _ _ e <;> cases e

def fieldT (P : Program) (t : TypeId) (f : Nat) : Option Nat := match P.underlying t with
  | some (.struct fs) => match fs[f]? with
    | some fd => match sizeT P fd.type with
      | some (_ + 1) => some fd.offset
      | _ => none
    | none => none
  | _ => none
def aFieldAddr (P : Program) (N : Nat) (dst : Option Tmp) (t : TypeId) (x : Operand) (f : Nat) (s : St) (K : St → Prop) : Prop := match eval s x, fieldT P t f with
  | some p, some o => match shift p o with
    | some y => putK N dst y s K
    | none => False
  | _, _ => False

theorem add_eq (b off n : Nat) : (⟨b, off, none⟩ : Addr).add n = ⟨b, off + n, none⟩ := by
  unfold Addr.add
  split
  · subst_vars; rfl
  · rfl

theorem run_underlying' {t : TypeId} {d : TypeDesc} (h : P.underlying t = some d) (w : World) : (underlying t).run P w = .ok d w := by
  unfold underlying program
  simp only [Sem.run_bind, Sem.run, Result.andThen_ok, h, Sem.run_pure]

theorem eval_shift {x : Operand} {p y : SV} {o : Nat} (h : Sim c N s a w) (hx : eval s x = some p) (hs : shift p o = some y) : ∃ b off, a.eval x = .pointer (some ⟨b, off, none⟩) ∧ ∀ r', SRel c w r' y (.pointer (some ⟨b, off + o, none⟩)) := by
  rcases eval_rel h hx (.slot 0) with ⟨t, _, _, _, hr⟩ | ⟨z, rfl, hr⟩
  · exact shift_rel hr hs
  · exact shift_rel (r := .slot 0) (x := .v z) hr hs

theorem aFieldAddr_reads {o : Oper} {t : TypeId} {x : Operand} {f : Nat} (ho : o.op = .fieldAddr t x f) (h : Sim c N s a w) (hk : aFieldAddr P N o.dst t x f s K) : Reads P o a w (Post c w N K) := by
  unfold aFieldAddr at hk
  cases he : eval s x with
  | none => rw [he] at hk; exact hk.elim
  | some p =>
    cases hf : fieldT P t f with
    | none => rw [he, hf] at hk; exact hk.elim
    | some off =>
      rw [he, hf] at hk
      simp only at hk
      cases hs : shift p off with
      | none => rw [hs] at hk; exact hk.elim
      | some y =>
        rw [hs] at hk
        obtain ⟨b, o', h1, h2⟩ := eval_shift h he hs
        refine ⟨_, fun w' _ => ?_, putK_post h hk fun d _ => h2 _⟩
        unfold fieldT at hf
        cases hu : P.underlying t with
        | none => rw [hu] at hf; cases hf
        | some d =>
          cases d with
          | struct fs =>
            rw [hu] at hf
            simp only at hf
            cases hfd : fs[f]? with
            | none => rw [hfd] at hf; cases hf
            | some fd =>
              rw [hfd] at hf
              simp only at hf
              cases hsz : sizeT P fd.type with
              | none => rw [hsz] at hf; cases hf
              | some n =>
                rw [hsz] at hf
                cases n with
                | zero => cases hf
                | succ n =>
                  cases hf
                  unfold execOp
                  simp only [ho, h1, Instr.fieldAt, Sem.run_bind, run_underlying' hu, Result.andThen_ok, hfd, Instr.sureAddr, Sem.run_pure, fieldPlace, run_sizeOf hsz]
                  simp [add_eq]
          | _ => rw [hu] at hf; cases hf

def rowAt (sz : Nat) (cs : List V) (i : Int) : List V := (cs.drop (i.toNat * sz)).take sz
def aIndexAddr (P : Program) (N : Nat) (dst : Option Tmp) (t : TypeId) (x ix : Operand) (s : St) (K : St → Prop) : Prop := match eval s x, evalV s ix with
  | some p, some (.sc (.int _ i)) => match P.underlying t with
    | some (.slice e) => match p with
      | .v (.sl n sz cs) => sizeT P e = some sz ∧ (0 ≤ i ∧ i < n) ∧ putK N dst (.v (.rd (rowAt sz cs i))) s K
      | .v (.slb id o n _) => match sizeT P e with
        | some sz => (0 ≤ i ∧ i < n) ∧ putK N dst (.v (.ptr id (o + i.toNat * sz))) s K
        | none => False
      | .lnk r n => match sizeT P e with
        | some sz => (0 ≤ i ∧ i < n) ∧ putK N dst (.pth r (i.toNat * sz)) s K
        | none => False
      | _ => False
    | some (.array n e) => match sizeT P e with
      | some sz => match shift p (i.toNat * sz) with
        | some y => (0 ≤ i ∧ i < n) ∧ putK N dst y s K
        | none => False
      | none => False
    | _ => False
  | _, _ => False

theorem run_indexAt {t e : TypeId} {b off n cap sz : Nat} {k : IntKind} {i : Int} (hu : P.underlying t = some (.slice e)) (hs : sizeT P e = some sz) (h0 : 0 ≤ i) (h1 : i < n) (w : World) :
    (Instr.indexAt t (.slice (some ⟨b, off, none⟩) n cap) (.int k i)).run P w = .ok (.pointer (some ⟨b, off + i.toNat * sz, none⟩)) w := by
  simp only [Instr.indexAt, asIntOf, Sem.run_bind, Sem.run_pure, Result.andThen_ok, run_underlying' hu, h0, h1, and_self, if_true, run_sizeOf hs, add_eq]
theorem run_indexAt_arr {t e : TypeId} {b off n sz : Nat} {k : IntKind} {i : Int} (hu : P.underlying t = some (.array n e)) (hs : sizeT P e = some sz) (h0 : 0 ≤ i) (h1 : i < n) (w : World) :
    (Instr.indexAt t (.pointer (some ⟨b, off, none⟩)) (.int k i)).run P w = .ok (.pointer (some ⟨b, off + i.toNat * sz, none⟩)) w := by
  simp only [Instr.indexAt, asIntOf, Sem.run_bind, Sem.run_pure, Result.andThen_ok, run_underlying' hu, Instr.sureAddr, h0, h1, and_self, if_true, run_sizeOf hs, add_eq]

theorem aIndexAddr_reads {o : Oper} {t : TypeId} {x ix : Operand} (ho : o.op = .indexAddr t x ix) (h : Sim c N s a w) (hk : aIndexAddr P N o.dst t x ix s K) : Reads P o a w (Post c w N K) := by
  unfold aIndexAddr at hk
  cases he : eval s x with
  | none => rw [he] at hk; exact hk.elim
  | some p =>
    cases hi : evalV s ix with
    | none => rw [he, hi] at hk; exact hk.elim
    | some z =>
      have hiv := evalV_rel h hi
      rw [he, hi] at hk
      cases z with
      | sc u =>
        cases u with
        | int kd i =>
          have hix : a.eval ix = .int kd i := Rel.exact hiv rfl
          simp only at hk
          cases hu : P.underlying t with
          | none => rw [hu] at hk; exact hk.elim
          | some d =>
            rw [hu] at hk
            cases d with
            | slice e =>
              simp only at hk
              cases p with
              | v q =>
                cases q with
                | sl n sz cs =>
                  obtain ⟨h1, ⟨h2, h3⟩, h4⟩ := hk
                  have hr : Rel c.I c.φ (.sl n sz cs) (a.eval x) := by
                    rcases eval_rel h he (.slot 0) with ⟨t, _, _, _, hr⟩ | ⟨z, e', hr⟩
                    · exact hr
                    · cases e'; exact hr
                  generalize hv : a.eval x = v at hr
                  cases hr with
                  | sl r1 r2 r3 r4 r5 r6 =>
                    rename_i vs b off cap
                    refine ⟨_, fun w' _ => ?_, putK_post h h4 (v := .pointer (some ⟨b, off + i.toNat * sz, none⟩)) fun d _ => ?_⟩
                    · unfold execOp
                      simp only [ho, hv, hix, Sem.run_bind, run_indexAt hu h1 h2 h3, Result.andThen_ok, Sem.run_pure]
                    · refine Rel.rd ((r1.drop _).take _) (fun j u hu => ?_) (fun u hu => r6 u (List.mem_of_mem_drop (List.mem_of_mem_take hu)))
                      rw [List.getElem?_take] at hu
                      split at hu
                      · rw [List.getElem?_drop] at hu
                        rw [Nat.add_assoc]
                        exact r2 _ u hu
                      · cases hu
                  | sl0 => omega
                | slb id o n cap =>
                  simp only at hk
                  cases hs : sizeT P e with
                  | none => rw [hs] at hk; exact hk.elim
                  | some sz =>
                    rw [hs] at hk
                    obtain ⟨⟨h2, h3⟩, h4⟩ := hk
                    have hr : Rel c.I c.φ (.slb id o n cap) (a.eval x) := by
                      rcases eval_rel h he (.slot 0) with ⟨t, _, _, _, hr⟩ | ⟨z, e', hr⟩
                      · exact hr
                      · cases e'; exact hr
                    generalize hv : a.eval x = v at hr
                    cases hr with
                    | slb0 => omega
                    | @slb _ _ _ _ b hb _ _ =>
                      refine ⟨_, fun w' _ => ?_, putK_post h h4 (v := .pointer (some ⟨b, o + i.toNat * sz, none⟩)) fun d _ => Rel.ptr hb⟩
                      unfold execOp
                      simp only [ho, hv, hix, Sem.run_bind, run_indexAt hu hs h2 h3, Result.andThen_ok, Sem.run_pure]
                | _ => exact hk.elim
              | lnk r n =>
                simp only at hk
                cases hs : sizeT P e with
                | none => rw [hs] at hk; exact hk.elim
                | some sz =>
                  rw [hs] at hk
                  obtain ⟨⟨h2, h3⟩, h4⟩ := hk
                  have hr := eval_any h he (fun _ _ _ _ _ e => by cases e) (.slot 0)
                  rcases hr with ⟨_, rfl⟩ | ⟨b, cap, hv, hb⟩
                  · omega
                  · refine ⟨_, fun w' _ => ?_, putK_post h h4 (v := .pointer (some ⟨b, 0 + i.toNat * sz, none⟩)) fun d _ => ⟨b, by rw [Nat.zero_add], hb⟩⟩
                    unfold execOp
                    simp only [ho, hv, hix, Sem.run_bind, run_indexAt hu hs h2 h3, Result.andThen_ok, Sem.run_pure]
              | _ => exact hk.elim
            | array n e =>
              simp only at hk
              cases hs : sizeT P e with
              | none => rw [hs] at hk; exact hk.elim
              | some sz =>
                rw [hs] at hk
                simp only at hk
                cases hsh : shift p (i.toNat * sz) with
                | none => rw [hsh] at hk; exact hk.elim
                | some y =>
                  rw [hsh] at hk
                  obtain ⟨⟨h2, h3⟩, h4⟩ := hk
                  obtain ⟨b, o', h1, h5⟩ := eval_shift h he hsh
                  refine ⟨_, fun w' _ => ?_, putK_post h h4 fun d _ => h5 _⟩
                  unfold execOp
                  simp only [ho, h1, hix, Sem.run_bind, run_indexAt_arr hu hs h2 h3, Result.andThen_ok, Sem.run_pure]
            | _ => exact hk.elim
        | _ => exact hk.elim
      | _ => exact hk.elim
end
end AM
end Go.Proofs.Ytmjnffjacgjfmaa
namespace Go.Proofs.Ytmjnffjacgjfmaa
set_option linter.all false
open Go.RowKit
namespace AM
section
variable {P : Program} {c : Cx} {N : Nat} {s : St} {a : Act} {w : World} {K : St → Prop}

/-! ## nilCheck -/
def aNilCheck (N : Nat) (dst : Option Tmp) (x : Operand) (s : St) (K : St → Prop) : Prop := match eval s x with
  | some (.v (.ptr id off)) => putK N dst (.v (.ptr id off)) s K
  | some (.v (.rd cs)) => putK N dst (.v (.rd cs)) s K
  | some (.pth r off) => putK N dst (.pth r off) s K
  | some (.v (.fn (.func f) first cap)) => putK N dst (.v (.fn (.func f) first cap)) s K
  | some (.v (.iface t v)) => putK N dst (.v (.iface t v)) s K
  | _ => False
theorem aNilCheck_reads {o : Oper} {x : Operand} (ho : o.op = .nilCheck x) (h : Sim c N s a w) (hk : aNilCheck N o.dst x s K) : Reads P o a w (Post c w N K) := by
  unfold aNilCheck at hk
  split at hk
  · rename_i id off he
    have hr := eval_any h he (fun _ _ _ _ _ e => by cases e) (.slot 0)
    generalize hv : a.eval x = v at hr
    cases hr with
    | ptr hb =>
      refine ⟨_, fun w' _ => ?_, putK_post h hk fun _ _ => Rel.ptr hb⟩
      unfold execOp
      simp only [ho, hv, Sem.run_pure]
  · rename_i cs he
    have hr := eval_any h he (fun _ _ _ _ _ e => by cases e) (.slot 0)
    generalize hv : a.eval x = v at hr
    cases hr with
    | rd h1 h2 h3 =>
      refine ⟨_, fun w' _ => ?_, putK_post h hk fun _ _ => Rel.rd h1 h2 h3⟩
      unfold execOp
      simp only [ho, hv, Sem.run_pure]
  · rename_i r off he
    have hr := eval_any h he (fun _ _ _ _ _ e => by cases e) (.slot 0)
    obtain ⟨b, hv, hb⟩ := hr
    refine ⟨_, fun w' _ => ?_, putK_post h hk (v := .pointer (some ⟨b, off, none⟩)) fun _ _ => ⟨b, rfl, hb⟩⟩
    unfold execOp
    simp only [ho, hv, Sem.run_pure]
  · rename_i f first cap he
    have hr := eval_any h he (fun _ _ _ _ _ e => by cases e) (.slot 0)
    generalize hv : a.eval x = v at hr
    cases hr with
    | fn h1 h2 =>
      refine ⟨_, fun w' _ => ?_, putK_post h hk fun _ _ => Rel.fn h1 h2⟩
      unfold execOp
      simp only [ho, hv, Sem.run_pure]
  · rename_i t y he
    have hr := eval_any h he (fun _ _ _ _ _ e => by cases e) (.slot 0)
    generalize hv : a.eval x = v at hr
    cases hr with
    | iface h1 =>
      refine ⟨_, fun w' _ => ?_, putK_post h hk fun _ _ => Rel.iface h1⟩
      unfold execOp
      simp only [ho, hv, Sem.run_pure]
  · exact hk.elim

/-! ## pick -/
def pickV (t : Bool) (x y : V) : V := match x, y with
  | .sc (.bool a), .sc (.bool b) => .sc (.bool (bif t then a else b))
  | .sc (.int k a), .sc (.int k' b) => bif k == k' then .sc (.int k (bif t then a else b)) else (bif t then x else y)
  | _, _ => bif t then x else y
theorem pickV_rel {I : Nat → Nat → Option Value} {φ : List Nat} {t : Bool} {x y : V} {u v : Value} (hx : Rel I φ x u) (hy : Rel I φ y v) : Rel I φ (pickV t x y) (if t then u else v) := by
  unfold pickV
  split
  · cases hx; cases hy; cases t <;> exact .sc _
  · rename_i k a k' b
    cases hx; cases hy
    cases hk : k == k' with
    | true =>
      have : k = k' := by simpa using hk
      subst this
      cases t <;> exact .sc _
    | false => cases t <;> exact .sc _
  · cases t
    · exact hy
    · exact hx
def aPick (N : Nat) (dst : Option Tmp) (x y z : Operand) (s : St) (K : St → Prop) : Prop := match evalV s x, evalV s y, evalV s z with
  | some (.sc (.bool t)), some u, some v => putK N dst (.v (pickV t u v)) s K
  | _, _, _ => False
theorem aPick_reads {o : Oper} {x y z : Operand} (ho : o.op = .pick x y z) (h : Sim c N s a w) (hk : aPick N o.dst x y z s K) : Reads P o a w (Post c w N K) := by
  unfold aPick at hk
  split at hk
  · rename_i t u v hx hy hz
    have h1 : a.eval x = .bool t := Rel.exact (evalV_rel h hx) rfl
    refine ⟨if t then a.eval y else a.eval z, fun w' _ => ?_, putK_post h hk fun _ _ => pickV_rel (evalV_rel h hy) (evalV_rel h hz)⟩
    unfold execOp
    simp only [ho, h1, asBool, Sem.run_bind, Sem.run_pure, Result.andThen_ok]
  · exact hk.elim

/-! ## parts -/
def partV (P : Program) (t : TypeId) (cs : List V) (off : Nat) : Option V := match aggT P t, sizeT P t with
  | some true, some n => bif Nat.ble (off + n) cs.length then some (.agg ((cs.drop off).take n)) else none
  | some false, some _ => cs[off]?
  | _, _ => none
theorem run_part {t : TypeId} {cs : List V} {off : Nat} {y : V} {vs : Array Value} (hr : RelL c.I c.φ cs vs.toList) (hy : partV P t cs off = some y) : ∃ v, Rel c.I c.φ y v ∧ ∀ w, (part t vs off).run P w = .ok v w := by
  unfold partV at hy
  split at hy
  · rename_i n ha hn
    cases hle : Nat.ble (off + n) cs.length with
    | false => rw [hle] at hy; cases hy
    | true =>
      rw [hle] at hy
      cases hy
      have hle := Nat.le_of_ble_eq_true hle
      refine ⟨.agg (vs.extract off (off + n)), .agg ?_, fun w => ?_⟩
      · have := (hr.drop off).take n
        simpa [List.extract, Array.toList_extract] using this
      · simp only [part, Sem.run_bind, run_isAgg ha, Result.andThen_ok, if_true, run_sizeOf hn, Sem.run_pure]
  · rename_i n ha hn
    obtain ⟨v, hv, h1⟩ := hr.get hy
    refine ⟨v, h1, fun w => ?_⟩
    have hv : vs[off]? = some v := by simpa using hv
    simp only [part, Sem.run_bind, run_isAgg ha, Result.andThen_ok, Bool.false_eq_true, if_false, hv, Sem.run_pure]
  · cases hy
def aField (P : Program) (N : Nat) (dst : Option Tmp) (t : TypeId) (x : Operand) (f : Nat) (s : St) (K : St → Prop) : Prop := match evalV s x, P.underlying t with
  | some (.agg cs), some (.struct fs) => match fs[f]? with
    | some fd => match partV P fd.type cs fd.offset with
      | some y => putK N dst (.v y) s K
      | none => False
    | none => False
  | _, _ => False
theorem aField_reads {o : Oper} {t : TypeId} {x : Operand} {f : Nat} (ho : o.op = .field t x f) (h : Sim c N s a w) (hk : aField P N o.dst t x f s K) : Reads P o a w (Post c w N K) := by
  unfold aField at hk
  split at hk
  · rename_i cs fs hx hu
    have hr := evalV_rel h hx
    generalize hv : a.eval x = v at hr
    cases hr with
    | agg hr =>
      rename_i vs
      cases hfd : fs[f]? with
      | none => rw [hfd] at hk; exact hk.elim
      | some fd =>
        rw [hfd] at hk
        simp only at hk
        cases hp : partV P fd.type cs fd.offset with
        | none => rw [hp] at hk; exact hk.elim
        | some y =>
          rw [hp] at hk
          obtain ⟨u, h1, h2⟩ := run_part hr hp
          refine ⟨u, fun w' _ => ?_, putK_post h hk fun _ _ => h1⟩
          unfold execOp
          simp only [ho, hv, Instr.field, Sem.run_bind, run_underlying' hu, Result.andThen_ok, hfd, asAgg, Sem.run_pure, h2]
  · exact hk.elim
def aIndex (P : Program) (N : Nat) (dst : Option Tmp) (t : TypeId) (x ix : Operand) (s : St) (K : St → Prop) : Prop := match evalV s x, evalV s ix, P.underlying t with
  | some (.agg cs), some (.sc (.int _ i)), some (.array n e) => match sizeT P e with
    | some sz => (0 ≤ i ∧ i < n) ∧ match partV P e cs (i.toNat * sz) with
      | some y => putK N dst (.v y) s K
      | none => False
    | none => False
  | _, _, _ => False
theorem aIndex_reads {o : Oper} {t : TypeId} {x ix : Operand} (ho : o.op = .index t x ix) (h : Sim c N s a w) (hk : aIndex P N o.dst t x ix s K) : Reads P o a w (Post c w N K) := by
  unfold aIndex at hk
  split at hk
  · rename_i cs kd i n e hx hi hu
    have hr := evalV_rel h hx
    have hix : a.eval ix = .int kd i := Rel.exact (evalV_rel h hi) rfl
    generalize hv : a.eval x = v at hr
    cases hr with
    | agg hr =>
      rename_i vs
      cases hsz : sizeT P e with
      | none => rw [hsz] at hk; exact hk.elim
      | some sz =>
        rw [hsz] at hk
        obtain ⟨⟨h0, h1⟩, hk⟩ := hk
        cases hp : partV P e cs (i.toNat * sz) with
        | none => rw [hp] at hk; exact hk.elim
        | some y =>
          rw [hp] at hk
          obtain ⟨u, h2, h3⟩ := run_part hr hp
          refine ⟨u, fun w' _ => ?_, putK_post h hk fun _ _ => h2⟩
          unfold execOp
          simp only [ho, hv, hix, Instr.index, asIntOf, Sem.run_bind, Sem.run_pure, run_underlying' hu, Result.andThen_ok, h0, h1, and_self, if_true, run_sizeOf hsz, h3]
  · exact hk.elim
def aExtract (N : Nat) (dst : Option Tmp) (x : Operand) (i : Nat) (s : St) (K : St → Prop) : Prop := match evalV s x with
  | some (.tup cs) => match cs[i]? with
    | some y => putK N dst (.v y) s K
    | none => False
  | _ => False
theorem aExtract_reads {o : Oper} {x : Operand} {i : Nat} (ho : o.op = .extract x i) (h : Sim c N s a w) (hk : aExtract N o.dst x i s K) : Reads P o a w (Post c w N K) := by
  unfold aExtract at hk
  split at hk
  · rename_i cs hx
    have hr := evalV_rel h hx
    generalize hv : a.eval x = v at hr
    cases hr with
    | tup hr =>
      rename_i vs
      cases hi : cs[i]? with
      | none => rw [hi] at hk; exact hk.elim
      | some y =>
        rw [hi] at hk
        obtain ⟨u, h1, h2⟩ := hr.get hi
        have h1 : vs[i]? = some u := by simpa using h1
        refine ⟨u, fun w' _ => ?_, putK_post h hk fun _ _ => h2⟩
        unfold execOp
        simp only [ho, hv, Instr.extract, h1, Sem.run_bind, Sem.run_pure, Result.andThen_ok]
  · exact hk.elim

/-! ## len -/
def lenV : SV → Option Nat
  | .v (.sl n _ _) => some n
  | .v .nil => some 0
  | .v (.fs n _ _) => some n
  | .v (.slb _ _ n _) => some n
  | .lnk _ n => some n
  | .own _ _ n _ _ => some n
  | _ => none
theorem lenV_rel {r : Root} {x : SV} {n : Nat} {v : Value} (h : SRel c w r x v) (hn : lenV x = some n) : ∃ p cap, v = .slice p n cap := by
  unfold lenV at hn
  split at hn <;> cases hn
  · cases h with
    | sl => exact ⟨_, _, rfl⟩
    | sl0 => exact ⟨_, _, rfl⟩
  · cases h with
    | nil => exact ⟨_, _, rfl⟩
  · cases h with
    | fs => exact ⟨_, _, rfl⟩
    | fs0 => exact ⟨_, _, rfl⟩
  · cases h with
    | slb => exact ⟨_, _, rfl⟩
    | slb0 => exact ⟨_, _, rfl⟩
  · rcases h with ⟨rfl, rfl⟩ | ⟨b, cap, rfl, _⟩ <;> exact ⟨_, _, rfl⟩
  · obtain ⟨_, vs, _, h2, _, _⟩ := h
    rcases h2.2 with ⟨rfl, rfl⟩ | ⟨g, cap, cur, rfl, _⟩ <;> exact ⟨_, _, rfl⟩
def aLen (P : Program) (N : Nat) (dst : Option Tmp) (t : TypeId) (x : Operand) (s : St) (K : St → Prop) : Prop := match eval s x, P.underlying t with
  | some p, some (.slice _) => match lenV p with
    | some n => putK N dst (.v (.sc (.int .i64 n))) s K
    | none => False
  | _, _ => False
theorem aLen_reads {o : Oper} {t : TypeId} {x : Operand} (ho : o.op = .call { callee := .builtin .len, args := #[x], argTypes := #[t] }) (h : Sim c N s a w) (hk : aLen P N o.dst t x s K) : Reads P o a w (Post c w N K) := by
  unfold aLen at hk
  split at hk
  · rename_i p e hx hu
    cases hl : lenV p with
    | none => rw [hl] at hk; exact hk.elim
    | some n =>
      rw [hl] at hk
      have hv : ∃ q cap, a.eval x = .slice q n cap := by
        rcases eval_rel h hx (.slot 0) with ⟨t, _, _, _, hr⟩ | ⟨z, rfl, hr⟩
        · exact lenV_rel hr hl
        · exact lenV_rel (w := w) (r := .slot 0) (x := .v z) hr hl
      obtain ⟨q, cap, hv⟩ := hv
      refine ⟨_, fun w' _ => ?_, putK_post h hk fun _ _ => Rel.sc _⟩
      unfold execOp
      simp only [ho, resolve, Sem.run_bind, Sem.run_pure, Result.andThen_ok, invoke, builtin, List.map_toArray, List.map_cons, List.map_nil, hv, Builtin.len_]
      simp [run_underlying' hu, goInt]
  · exact hk.elim

/-! ## pieces of slices -/
def boundOf (s : St) (d : Int) : Option Operand → Option Int
  | none => some d
  | some x => match evalV s x with
    | some (.sc (.int _ i)) => some i
    | _ => none
theorem boundOf_run {d : Int} {x : Option Operand} {i : Int} (h : Sim c N s a w) (hb : boundOf s d x = some i) : (x = none ∧ i = d) ∨ ∃ y k, x = some y ∧ a.eval y = .int k i := by
  cases x with
  | none => cases hb; exact .inl ⟨rfl, rfl⟩
  | some y =>
    right
    simp only [boundOf] at hb
    cases hy : evalV s y with
    | none => rw [hy] at hb; cases hb
    | some z =>
      rw [hy] at hb
      cases z with
      | sc u =>
        cases u with
        | int k i' => cases hb; exact ⟨y, k, rfl, Rel.exact (evalV_rel h hy) rfl⟩
        | _ => cases hb
      | _ => cases hb
/-- The piece from l to h. -/
def piece (sz : Nat) (cs : List V) (l h : Int) : List V := (cs.drop (l.toNat * sz)).take ((h - l).toNat * sz)
/-- What is full is a slice too. -/
def slV : Option V → Option V
  | some (.fs n sz cs) => some (.sl n sz cs)
  | x => x
theorem slV_rel {x : Operand} {n sz : Nat} {cs : List V} (h : Sim c N s a w) (hx : slV (evalV s x) = some (.sl n sz cs)) : Rel c.I c.φ (.sl n sz cs) (a.eval x) := by
  cases he : evalV s x with
  | none => rw [he] at hx; cases hx
  | some y =>
    have hr := evalV_rel h he
    rw [he] at hx
    cases y with
    | fs m z ds => cases hx; exact fs_sl' hr
    | _ => cases hx <;> exact hr
def aSlice (P : Program) (N : Nat) (dst : Option Tmp) (t : TypeId) (x : Operand) (lo hi mx : Option Operand) (s : St) (K : St → Prop) : Prop := match slV (evalV s x), P.underlying t with
  | some (.sl n sz cs), some (.slice e) => match boundOf s 0 lo, boundOf s n hi, boundOf s n mx with
    | some l, some h, some m => sizeT P e = some sz ∧ (mx.isSome = true → hi.isSome = true) ∧ (0 ≤ l ∧ l ≤ h ∧ h ≤ m ∧ m ≤ n) ∧ putK N dst (.v (bif mx.isSome && h == m then .fs (h - l).toNat sz (piece sz cs l h) else .sl (h - l).toNat sz (piece sz cs l h))) s K
    | _, _, _ => False
  | _, _ => False
theorem run_sliceBound {x : Value} {k : IntKind} {i : Int} {y : Nat} {code : BoundsCode} (hx : x = .int k i) (h0 : 0 ≤ i) (h1 : i ≤ y) (w : World) : (Instr.sliceBound x y code).run P w = .ok i.toNat w := by
  subst hx
  simp only [Instr.sliceBound, asIntOf, Sem.run_bind, Sem.run_pure, Result.andThen_ok, h0, h1, and_self, if_true]
/-- A piece whose capacity is its length. -/
theorem full_if {I : Nat → Nat → Option Value} {φ : List Nat} {b : Bool} {n sz : Nat} {cs : List V} {v : Value} (hb : b = true → ∃ q, v = .slice q n n) (h : Rel I φ (.sl n sz cs) v) : Rel I φ (bif b then .fs n sz cs else .sl n sz cs) v := by
  cases b with
  | false => exact h
  | true =>
    obtain ⟨q, rfl⟩ := hb rfl
    cases h with
    | sl r1 r2 r3 r4 r5 r6 => exact .fs r1 r2 r3 r5 r6
    | sl0 => exact .fs0
theorem aSlice_reads {o : Oper} {t : TypeId} {x : Operand} {lo hi mx : Option Operand} (ho : o.op = .slice t x lo hi mx) (h : Sim c N s a w) (hk : aSlice P N o.dst t x lo hi mx s K) : Reads P o a w (Post c w N K) := by
  unfold aSlice at hk
  split at hk
  · rename_i n sz cs e hx hu
    split at hk
    · rename_i l hh m hl hhi hm
      obtain ⟨hsz, hmh, ⟨h0, h1, h2, h3⟩, hk⟩ := hk
      have hr := slV_rel h hx
      generalize hv : a.eval x = v at hr
      have hcap : ∃ q cap, v = .slice q n cap ∧ n ≤ cap := by
        cases hr with
        | sl _ _ _ r4 _ _ => exact ⟨_, _, rfl, r4⟩
        | sl0 => exact ⟨_, _, rfl, Nat.le_refl _⟩
      obtain ⟨q, cap, rfl, hnc⟩ := hcap
      -- the bounds
      have B : ∃ mm : Nat, (∀ w', (Instr.sliceBounds true n cap (lo.map a.eval) (hi.map a.eval) (mx.map a.eval)).run P w' = .ok (l.toNat, hh.toNat, mm) w') ∧ hh.toNat ≤ mm ∧ mm ≤ cap ∧ (mx.isSome = true → mm = m.toNat) := by
        rcases boundOf_run h hm with ⟨rfl, rfl⟩ | ⟨my, mk, rfl, hmv⟩
        · rcases boundOf_run h hhi with ⟨rfl, rfl⟩ | ⟨hy, hk', rfl, hhv⟩
          · rcases boundOf_run h hl with ⟨rfl, rfl⟩ | ⟨ly, lk, rfl, hlv⟩
            · exact ⟨cap, fun w' => by simp [Instr.sliceBounds], by simpa using hnc, Nat.le_refl _, fun e => by cases e⟩
            · refine ⟨cap, fun w' => ?_, by simpa using hnc, Nat.le_refl _, fun e => by cases e⟩
              simp only [Instr.sliceBounds, Option.map_none, Option.map_some, Sem.run_bind, Sem.run_pure, Result.andThen_ok, run_sliceBound hlv h0 h1]
              simp
          · have hb := fun w' => run_sliceBound (P := P) (code := .sliceAcap) hhv (by omega : (0 : Int) ≤ hh) (y := cap) (by omega) w'
            rcases boundOf_run h hl with ⟨rfl, rfl⟩ | ⟨ly, lk, rfl, hlv⟩
            · refine ⟨cap, fun w' => ?_, by omega, Nat.le_refl _, fun e => by cases e⟩
              simp only [Instr.sliceBounds, Option.map_none, Option.map_some, Sem.run_bind, Sem.run_pure, Result.andThen_ok, if_true, hb]
              simp
            · refine ⟨cap, fun w' => ?_, by omega, Nat.le_refl _, fun e => by cases e⟩
              simp only [Instr.sliceBounds, Option.map_none, Option.map_some, Sem.run_bind, Sem.run_pure, Result.andThen_ok, if_true, hb, run_sliceBound hlv h0 (y := hh.toNat) (by omega)]
        · rcases boundOf_run h hhi with ⟨rfl, rfl⟩ | ⟨hy, hk', rfl, hhv⟩
          · have := hmh rfl
            cases this
          · have hmb := fun w' => run_sliceBound (P := P) (code := .slice3Acap) hmv (by omega : (0 : Int) ≤ m) (y := cap) (by omega) w'
            have hb := fun w' => run_sliceBound (P := P) (code := .slice3B) hhv (by omega : (0 : Int) ≤ hh) (y := m.toNat) (by omega) w'
            rcases boundOf_run h hl with ⟨rfl, rfl⟩ | ⟨ly, lk, rfl, hlv⟩
            · refine ⟨m.toNat, fun w' => ?_, by omega, by omega, fun _ => rfl⟩
              simp only [Instr.sliceBounds, Option.map_none, Option.map_some, Sem.run_bind, Sem.run_pure, Result.andThen_ok, if_true, hmb, hb]
              simp
            · refine ⟨m.toNat, fun w' => ?_, by omega, by omega, fun _ => rfl⟩
              simp only [Instr.sliceBounds, Option.map_none, Option.map_some, Sem.run_bind, Sem.run_pure, Result.andThen_ok, if_true, hmb, hb, run_sliceBound hlv h0 (y := hh.toNat) (by omega)]
      obtain ⟨mm, B1, B2, B3, B4⟩ := B
      have e1 : (hh - l).toNat = hh.toNat - l.toNat := by omega
      refine ⟨.slice (if mm = l.toNat then q else q.map (·.add (l.toNat * sz))) (hh.toNat - l.toNat) (mm - l.toNat), fun w' _ => ?_, putK_post h hk fun _ _ => ?_⟩
      · unfold execOp
        simp only [ho, hv, Instr.sliceAt, Sem.run_bind, run_underlying' hu, Result.andThen_ok, Instr.slice, B1, run_sizeOf hsz, Sem.run_pure]
      · show Rel c.I c.φ _ _
        refine full_if (fun hb => ?_) ?_
        · simp only [Bool.and_eq_true, beq_iff_eq] at hb
          rw [B4 hb.1, hb.2]
          exact ⟨_, by rw [show (m - l).toNat = m.toNat - l.toNat by omega]⟩
        rw [e1]
        cases hr with
        | sl r1 r2 r3 r4 r5 r6 =>
          rename_i vs b off
          have hlen : hh.toNat * sz ≤ cs.length := by rw [r3]; exact Nat.mul_le_mul_right _ (by omega)
          have hsub : (hh.toNat - l.toNat) * sz = hh.toNat * sz - l.toNat * sz := by rw [Nat.sub_mul]
          have hle : l.toNat * sz ≤ hh.toNat * sz := Nat.mul_le_mul_right _ (by omega)
          by_cases hml : mm = l.toNat
          · rw [if_pos hml]
            have hz : hh.toNat - l.toNat = 0 := by omega
            have hp : piece sz cs l hh = [] := by unfold piece; rw [e1, hz]; simp
            rw [hz, hp]
            exact .sl (vs := []) .nil (fun j u hu => by simp at hu) (by simp) (Nat.zero_le _) (by omega) (fun u hu => by simp at hu)
          · rw [if_neg hml]
            simp only [Option.map_some, add_eq]
            refine .sl (vs := (vs.drop (l.toNat * sz)).take ((hh.toNat - l.toNat) * sz)) ?_ (fun j u hu => ?_) ?_ (by omega) (by omega) (fun u hu => r6 u (List.mem_of_mem_drop (List.mem_of_mem_take hu)))
            · have := (r1.drop (l.toNat * sz)).take ((hh - l).toNat * sz)
              rw [e1] at this
              unfold piece
              rw [e1]
              exact this
            · rw [List.getElem?_take] at hu
              split at hu
              · rw [List.getElem?_drop] at hu
                rw [Nat.add_assoc]
                exact r2 _ u hu
              · cases hu
            · unfold piece
              rw [e1, List.length_take, List.length_drop, hsub]
              omega
        | sl0 =>
          have : hh.toNat = 0 := by omega
          have hl0 : l.toNat = 0 := by omega
          have hm0 : mm = 0 := by omega
          have hp : piece sz [] l hh = [] := by unfold piece; simp
          rw [this, hl0, hp, hm0]
          exact .sl0
    · exact hk.elim
  · exact hk.elim
/-- The head of a row of the call's own. -/
def aShrink (P : Program) (N : Nat) (dst : Option Tmp) (t : TypeId) (x : Operand) (lo hi mx : Option Operand) (s : St) (K : St → Prop) : Prop := match x, dst, eval s x, P.underlying t, hi with
  | .tmp u, some d, some (.own true e n sz cs), some (.slice e'), some y => match evalV s y with
    | some (.sc (.int _ i)) => lo = none ∧ mx = none ∧ sizeT P e' = some sz ∧ (0 ≤ i ∧ i ≤ n) ∧ d < N ∧ K ⟨putF d (.own true e i.toNat sz (cs.take (i.toNat * sz))) (del u s.F), s.H⟩
    | _ => False
  | _, _, _, _, _ => False
theorem aShrink_reads {o : Oper} {t : TypeId} {x : Operand} {lo hi mx : Option Operand} (ho : o.op = .slice t x lo hi mx) (h : Sim c N s a w) (hk : aShrink P N o.dst t x lo hi mx s K) : Reads P o a w (Post c w N K) := by
  unfold aShrink at hk
  split at hk
  · rename_i u d e n sz cs e' y hd hu hx
    split at hk
    · rename_i k i hy
      obtain ⟨rfl, rfl, hsz, ⟨hi0, hi1⟩, hd', hk⟩ := hk
      have hyv : a.eval y = .int k i := by
        have := evalV_rel h hy
        generalize a.eval y = v at this
        cases this
        rfl
      obtain ⟨F, H⟩ := s
      rcases eval_rel h hx (.slot 0) with ⟨u', e1, hg, hv, _⟩ | ⟨z, e', _⟩
      rotate_left
      · cases e'
      cases e1
      obtain ⟨v, hv', h0, vs, h1, h2, h6, h3⟩ := h.fr u _ (mem_getF hg)
      have hav : a.eval (.tmp u) = v := by
        rw [hv'] at hv
        exact (Option.some.inj hv).symm
      have hdl : Sim c N ⟨del u F, H⟩ a w := h.sub fun p hp => (mem_del (x := p.2) (k := p.1) hp).1
      obtain ⟨m, rfl⟩ := Int.eq_ofNat_of_zero_le hi0
      simp only [Int.toNat_natCast] at hk ⊢
      have hmn : m ≤ n := by omega
      rcases h2.2 with ⟨rfl, rfl⟩ | ⟨g, cap, cur, rfl, hb0, g1, g2, g3, g4, g5⟩
      · obtain ⟨rfl, rfl⟩ := nil_of h1 h2
        have hm0 : m = 0 := by omega
        subst hm0
        refine ⟨.slice none 0 0, fun w' _ => ?_, ?_⟩
        · unfold execOp
          simp only [ho, hav, Option.map_some, Option.map_none, Instr.sliceAt, Sem.run_bind, run_underlying' hu, Result.andThen_ok, Instr.slice, Instr.sliceBounds, Sem.run_pure, if_true, run_sliceBound hyv (Int.le_refl 0) (Int.le_refl 0), run_sizeOf hsz]
          simp
        · rw [hd]
          exact ⟨_, _, hdl.put' hd' (own_nil h0), Ext.free c w _, by simpa using hk⟩
      · obtain ⟨k1, k2⟩ := h3 g rfl
        have hlt := h.inv.lt g (by rw [k1]; simp)
        refine ⟨.slice (some ⟨g, 0, none⟩) m cap, fun w' _ => ?_, ?_⟩
        · unfold execOp
          simp only [ho, hav, Option.map_some, Option.map_none, Instr.sliceAt, Sem.run_bind, run_underlying' hu, Result.andThen_ok, Instr.slice, Instr.sliceBounds, Sem.run_pure, if_true, run_sliceBound hyv hi0 (show (m : Int) ≤ cap by omega), run_sizeOf hsz]
          simp [add_eq]
        · rw [hd]
          have hsub : m * sz ≤ n * sz := Nat.mul_le_mul_right _ hmn
          refine ⟨_, _, hdl.put_own hd' hlt (fun id => by rw [k1]; simp) (fun id j => by rw [k1]; simp) (fun k x hx => ?_) ?_, Ext.give c w (fun _ => by rw [k1]; simp), hk⟩
          · have h5 := mem_del (mem_del hx).1
            refine ⟨by rw [k1]; simpa using Ne.symm h5.2.1, fun q hq => ?_⟩
            rw [k1] at hq
            cases hq
            exact h5.2.2
          · refine ⟨h0, vs.take (m * sz), h1.take _, ⟨by rw [List.length_take, h2.1]; omega, .inr ⟨g, cap, cur, rfl, hb0, g1, by omega, g3, g4, by rw [← g5, List.take_take, Nat.min_eq_left hsub]⟩⟩, fun x hx => h6 x (List.mem_of_mem_take hx), fun b hb => ?_⟩
            cases hb
            exact ⟨give_self, k2⟩
    · exact hk.elim
  · exact hk.elim
end
end AM
end Go.Proofs.Ytmjnffjacgjfmaa
