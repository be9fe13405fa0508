/- Operations that only reckon or read, over an abstract state. Plain lemmas, over any program. -/
import Derived.Test.YtoooldijnilpaaaAu
namespace Go.Proofs.Ytoooldijnilpaaa
set_option linter.all false
open Go.RowKit
namespace AM

/-- A run that looks at no memory. -/
def idle (P : Program) {α : Type} : Sem α → Option α
  | .pure a => some a
  | .program k => idle P (k P)
  | .mark _ k => idle P k
  | _ => none
theorem idle_run {P : Program} {α : Type} {s : Sem α} {a : α} (h : idle P s = some a) (w : World) : s.run P w = .ok a w := by
  induction s with
  | pure b => simp only [idle, Option.some.injEq] at h; subst h; rfl
  | program k ih => exact ih P h
  | mark m k ih => exact ih h
  | _ => simp [idle] at h
theorem idle_bind {P : Program} {α β : Type} (s : Sem α) (f : α → Sem β) : idle P (s >>= f) = (idle P s).bind fun a => idle P (f a) := by
  show idle P (s.bind f) = _
  induction s with
  | pure b => rfl
  | program k ih => exact ih P
  | mark m k ih => exact ih
  | _ => rfl

def eval (s : St) : Operand → Option SV
  | .tmp t => getF t s.F
  | .const v => some (.v (V.ofValue v))
  | .func f => some (.v (.fn (.func f) [] []))
  | .global _ => none
def evalV (s : St) (x : Operand) : Option V := match eval s x with
  | some (.v y) => some y
  | _ => none
def valOf (s : St) (x : Operand) : Option Value := match eval s x with
  | some (.v y) => y.exact
  | _ => none

/-- What becomes of a row that is moved or loaded into slot d: it is handed on to an append, only looked at, or shared. -/
inductive Use where
  | transfer
  | link
  | copy
def isT (d : Nat) : Operand → Bool
  | .tmp t => t == d
  | _ => false
def feeds (d : Nat) (o : Oper) : Bool := match o.op with
  | .call { callee := .builtin .append, args, .. } => match args[0]? with
    | some x => isT d x
    | none => false
  | _ => false
def looks (d : Nat) (o : Oper) : Bool := match o.op with
  | .indexAddr _ x _ => isT d x
  | .call { callee := .builtin .len, args, .. } => match args[0]? with
    | some x => isT d x
    | none => false
  | _ => false
def useOf (ops : List Oper) (d : Nat) : Use := bif ops.any (feeds d) then .transfer else bif ops.any (looks d) then .link else .copy

def fitB (d : Nat) : SV → Bool
  | .v _ => true
  | .any => true
  | .own .. => false
  | .pth r _ => !(r == .slot d)
  | .lnk r _ => !(r == .slot d)

def putK (N : Nat) (dst : Option Tmp) (x : SV) (s : St) (K : St → Prop) : Prop := match dst with
  | some d => d < N ∧ fitB d x = true ∧ K ⟨putF d x s.F, s.H⟩
  | none => K s

/-- What holds behind a stretch: some state of the abstract kind. -/
def Post (c : Cx) (w : World) (N : Nat) (K : St → Prop) : Act → World → Prop := fun a' w' => ∃ c' s', Sim c' N s' a' w' ∧ Ext c w c' w' ∧ K s'

def Agree (w w' : World) : Prop := ∀ b, b < w.heap.size → w'.heap[b]? = w.heap[b]?
theorem Agree.refl (w : World) : Agree w w := fun _ _ => rfl
theorem Agree.cell {w w' : World} (h : Agree w w') {p : Addr} {v : Value} (hv : w.cell? p = some v) : w'.cell? p = some v := by
  rw [World.cell?_of_block (h p.block (World.block_lt_of_cell? w p hv))]; exact hv

section
variable {P : Program} {c : Cx} {N : Nat} {s : St} {a : Act} {w : World} {K : St → Prop}

theorem eval_rel {x : Operand} {y : SV} (h : Sim c N s a w) (hx : eval s x = some y) (r : Root) : (∃ t, x = .tmp t ∧ getF t s.F = some y ∧ a.tmps[t]? = some (a.eval x) ∧ SRel c w (.slot t) y (a.eval x)) ∨ (∃ z, y = .v z ∧ Rel c.I c.φ z (a.eval x)) := by
  cases x with
  | tmp t =>
    obtain ⟨v, hv, hr⟩ := h.fr t y (mem_getF hx)
    have e : a.eval (.tmp t) = v := by simp [Act.eval, hv]
    rw [e]
    exact .inl ⟨t, rfl, hx, hv, hr⟩
  | const v => cases hx; exact .inr ⟨_, rfl, ofValue_rel v⟩
  | func f => cases hx; exact .inr ⟨_, rfl, .fn (first' := #[]) (cap' := #[]) .nil .nil⟩
  | global g => cases hx

theorem evalV_rel {x : Operand} {y : V} (h : Sim c N s a w) (hx : evalV s x = some y) : Rel c.I c.φ y (a.eval x) := by
  unfold evalV at hx
  cases he : eval s x with
  | none => rw [he] at hx; cases hx
  | some z =>
    rw [he] at hx
    cases z with
    | v z =>
      cases hx
      rcases eval_rel h he (.slot 0) with ⟨t, _, _, _, hr⟩ | ⟨z', e, hr⟩
      · exact hr
      · cases e; exact hr
    | _ => cases hx
theorem valOf_eq {x : Operand} {v : Value} (h : Sim c N s a w) (hx : valOf s x = some v) : a.eval x = v := by
  unfold valOf at hx
  cases he : eval s x with
  | none => rw [he] at hx; cases hx
  | some z =>
    rw [he] at hx
    cases z with
    | v z =>
      rcases eval_rel h he (.slot 0) with ⟨t, _, _, _, hr⟩ | ⟨z', e, hr⟩
      · exact Rel.exact hr hx
      · cases e; exact Rel.exact hr hx
    | _ => cases hx

theorem fitB_fit {d : Nat} {x : SV} (h : fitB d x = true) : Fit d x := by
  cases x <;> first | trivial | (simp [fitB] at h; try exact h)

/-- A slot is filled by putK. -/
theorem putK_post {dst : Option Tmp} {x : SV} {v : Value} (h : Sim c N s a w) (hk : putK N dst x s K) (hx : ∀ d, dst = some d → SRel c w (.slot d) x v) : Post c w N K (a.put dst v) w := by
  cases dst with
  | none => exact ⟨c, s, h, Ext.refl c w, hk⟩
  | some d =>
    obtain ⟨h1, h2, h3⟩ := hk
    exact ⟨_, _, Sim.put (F := s.F) (H := s.H) h h1 (fitB_fit h2) (hx d rfl), Ext.free c w _, h3⟩

theorem Post.mono {K' : St → Prop} {a' : Act} {w' : World} (h : Post c w N K a' w') (hk : ∀ s, K s → K' s) : Post c w N K' a' w' := by
  obtain ⟨c', s', h1, h2, h3⟩ := h
  exact ⟨c', s', h1, h2, hk _ h3⟩

/-- An operation that only reckons or reads: one value in every world that has the blocks there are. -/
def memB : Op → Bool
  | .load .. => true
  | .lookup .. => true
  | .call { callee := .builtin .len, .. } => true
  | _ => false
def Reads (P : Program) (o : Oper) (a : Act) (w : World) (Q : Act → World → Prop) : Prop := ∃ v, (∀ w', (memB o.op = true → Agree w w') → (execOp a.eval o).run P w' = .ok (.value v) w') ∧ Q (a.put o.dst v) w

/-! ## A value is moved -/
def aMove (N : Nat) (ops : List Oper) (dst : Option Tmp) (x : Operand) (s : St) (K : St → Prop) : Prop := match eval s x with
  | some (.own pr e n sz cs) => match x, dst with
    | .tmp u, some d => d < N ∧ (u == d) = false ∧ (match useOf ops d with
      | .transfer => K ⟨putF d (.own pr e n sz cs) (del u s.F), s.H⟩
      | .link => K ⟨putF d (.lnk (.slot u) n) s.F, s.H⟩
      | .copy => K ⟨putF d (.v (.sl n sz cs)) (setF u (.own false e n sz cs) s.F), s.H⟩)
    | _, _ => False
  | some x => putK N dst x s K
  | none => False

theorem own_lnk {r : Root} {pr : Bool} {e n sz : Nat} {cs : List V} {v : Value} (h : SRel c w r (.own pr e n sz cs) v) : ∀ r', SRel c w r' (.lnk r n) v := by
  obtain ⟨h0, vs, h1, h2, h4, h3⟩ := h
  intro r'
  rcases h2.2 with ⟨rfl, rfl⟩ | ⟨g, cap, cur, rfl, _⟩
  · exact .inl ⟨rfl, rfl⟩
  · exact .inr ⟨g, cap, rfl, (h3 g rfl).1⟩

theorem SRel.any_root {r r' : Root} {x : SV} {v : Value} (h : SRel c w r x v) (hx : ∀ pr e n sz cs, x ≠ .own pr e n sz cs) : SRel c w r' x v := by
  cases x with
  | own pr e n sz cs => exact absurd rfl (hx pr e n sz cs)
  | _ => exact h

theorem eval_any {x : Operand} {y : SV} (h : Sim c N s a w) (hx : eval s x = some y) (hy : ∀ pr e n sz cs, y ≠ .own pr e n sz cs) (r : Root) : SRel c w r y (a.eval x) := by
  rcases eval_rel h hx r with ⟨t, _, _, _, hr⟩ | ⟨z, rfl, hr⟩
  · exact hr.any_root hy
  · exact hr

theorem aMove_post {ops : List Oper} {dst : Option Tmp} {x : Operand} (h : Sim c N s a w) (hk : aMove N ops dst x s K) : Post c w N K (a.put dst (a.eval x)) w := by
  unfold aMove at hk
  cases he : eval s x with
  | none => rw [he] at hk; exact hk.elim
  | some y =>
    rw [he] at hk
    cases y with
    | own pr e n sz cs =>
      rcases eval_rel h he (.slot 0) with ⟨t, rfl, hg, hv, hr⟩ | ⟨z, e', _⟩
      · cases dst with
        | none => exact hk.elim
        | some d =>
          obtain ⟨h1, h2, h3⟩ := hk
          have hne : t ≠ d := by simpa using h2
          cases hu : useOf ops d with
          | transfer =>
            simp only [hu] at h3
            obtain ⟨c', v, k1, k2, k3⟩ := Sim.hand (F := s.F) (H := s.H) h hg h1
            rw [hv] at k1
            cases k1
            exact ⟨_, _, k2, k3, h3⟩
          | link =>
            simp only [hu] at h3
            exact ⟨_, _, Sim.put (F := s.F) (H := s.H) h h1 (x := .lnk (.slot t) n) (fun e => hne (by injection e)) (own_lnk hr _), Ext.free c w _, h3⟩
          | copy =>
            simp only [hu] at h3
            obtain ⟨c', v, k1, k2, k3, k4⟩ := Sim.share (F := s.F) (H := s.H) h hg
            rw [hv] at k1
            cases k1
            exact ⟨_, _, k3.put h1 (x := .v (.sl n sz cs)) trivial k2, k4.trans (Ext.free c' w _), h3⟩
      · cases e'
    | v z => exact putK_post h hk fun d _ => eval_any h he (fun _ _ _ _ _ e => by cases e) _
    | pth r o => exact putK_post h hk fun d _ => eval_any h he (fun _ _ _ _ _ e => by cases e) _
    | lnk r o => exact putK_post h hk fun d _ => eval_any h he (fun _ _ _ _ _ e => by cases e) _
    | any => exact putK_post h hk fun d _ => eval_any h he (fun _ _ _ _ _ e => by cases e) _

def aAssign (N : Nat) (dst : Option Tmp) (x : Operand) (s : St) (K : St → Prop) : Prop := match eval s x with
  | some (.own pr e n sz cs) => match x, dst with
    | .tmp u, some d => d < N ∧ K ⟨putF d (.own pr e n sz cs) (del u s.F), s.H⟩
    | _, _ => False
  | some x => putK N dst x s K
  | none => False
theorem aAssign_post {dst : Option Tmp} {x : Operand} (h : Sim c N s a w) (hk : aAssign N dst x s K) : Post c w N K (a.put dst (a.eval x)) w := by
  unfold aAssign at hk
  cases he : eval s x with
  | none => rw [he] at hk; exact hk.elim
  | some y =>
    rw [he] at hk
    cases y with
    | own pr e n sz cs =>
      rcases eval_rel h he (.slot 0) with ⟨t, rfl, hg, hv, hr⟩ | ⟨z, e', _⟩
      · cases dst with
        | none => exact hk.elim
        | some d =>
          obtain ⟨h1, h3⟩ := hk
          obtain ⟨c', v, k1, k2, k3⟩ := Sim.hand (F := s.F) (H := s.H) h hg h1
          rw [hv] at k1
          cases k1
          exact ⟨_, _, k2, k3, h3⟩
      · cases e'
    | v z => exact putK_post h hk fun d _ => eval_any h he (fun _ _ _ _ _ e => by cases e) _
    | pth r o => exact putK_post h hk fun d _ => eval_any h he (fun _ _ _ _ _ e => by cases e) _
    | lnk r o => exact putK_post h hk fun d _ => eval_any h he (fun _ _ _ _ _ e => by cases e) _
    | any => exact putK_post h hk fun d _ => eval_any h he (fun _ _ _ _ _ e => by cases e) _

/-! ## What is reckoned from values that stand whole in themselves -/
def genB : Op → Bool
  | .pick .. | .binOp .. | .unOp .. | .convert .. | .makeInterface .. | .field .. | .index .. | .extract .. | .slice .. | .typeAssert .. | .build .. | .nilCheck _ => true
  | .call { callee := .builtin b, .. } => match b with
    | .len | .cap | .min | .max => true
    | _ => false
  | _ => false
def rho (s : St) (x : Operand) : Value := (valOf s x).getD undef
def exactV (P : Program) (s : St) (o : Oper) : Option Value :=
  bif genB o.op && o.op.operands.toList.all (fun x => (valOf s x).isSome) then
    match idle P (execOp (rho s) o) with
    | some (.value v) => some v
    | _ => none
  else none
theorem exactV_run {o : Oper} {v : Value} (h : Sim c N s a w) (hv : exactV P s o = some v) (w' : World) : (execOp a.eval o).run P w' = .ok (.value v) w' := by
  unfold exactV at hv
  cases hc : (genB o.op && o.op.operands.toList.all (fun x => (valOf s x).isSome)) with
  | false => rw [hc] at hv; cases hv
  | true =>
    rw [hc] at hv
    simp only [Bool.and_eq_true, List.all_eq_true] at hc
    obtain ⟨h1, h2⟩ := hc
    have hs : ∀ cs b, o.op ≠ .select cs b := fun cs b e => by rw [e] at h1; cases h1
    rw [execOp_congr o hs (ρ := a.eval) (ρ' := rho s) fun x hx => by
      have h3 := h2 x (by simpa using hx)
      cases hx' : valOf s x with
      | none => rw [hx'] at h3; cases h3
      | some u => rw [valOf_eq h hx']; simp [rho, hx']]
    simp only [cond_true] at hv
    cases hi : idle P (execOp (rho s) o) with
    | none => rw [hi] at hv; cases hv
    | some n =>
      rw [hi] at hv
      cases n with
      | value u => cases hv; exact idle_run hi w'
      | _ => cases hv

theorem aGen_reads {o : Oper} {v : Value} (h : Sim c N s a w) (hv : exactV P s o = some v) (hk : putK N o.dst (.v (.ofValue v)) s K) : Reads P o a w (Post c w N K) :=
  ⟨v, fun w' _ => exactV_run h hv w', putK_post h hk fun _ _ => ofValue_rel v⟩
end
end AM
end Go.Proofs.Ytoooldijnilpaaa
