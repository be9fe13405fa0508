/- A region that draws its order, walked once in the order of the text, calls and stores among its operations. Conditions: the effects are ordered one after the other, and each read that is not ordered against an effect is a plain move, or stands ahead of what only makes memory. -/
import Derived.Deep.QuietTactic
import Derived.WalkKit
import Derived.BigQuiet
namespace Go.Proofs.Ytmjnffjacgjfmaa
namespace Mix

/-- An operation that may act: all but those that only reckon or read. -/
def effB (o : Oper) : Bool :=
  match o.op with
  | .move _ | .assign _ | .pick .. | .load .. | .nilCheck _ | .binOp .. | .unOp .. | .makeInterface .. | .slice .. | .fieldAddr .. | .field .. | .indexAddr .. | .index ..
  | .lookup .. | .typeAssert .. | .extract .. | .convert .. | .build .. | .makeFunc .. => false
  | .call c =>
    match c.callee with
    | .builtin b => (match b with | .len | .cap | .min | .max => false | _ => true)
    | _ => true
  | _ => true

/-- What does not look at memory at all. -/
def idleB (o : Oper) : Bool :=
  match o.op with
  | .move _ | .assign _ | .pick .. | .extract .. | .makeInterface .. => true
  | .makeFunc .. => true
  | _ => false

/-- What only lays one new block. -/
def laysB (o : Oper) : Bool :=
  match o.op with
  | .alloc _ | .box .. | .buildSlice .. => true
  | _ => false

/-- Which pairs may change places. 0: a move and anything, two reads; 1: a read ahead of what lays a block, too; 2: whatever does not act, and anything. -/
def pairOk (ga : Nat) (x y : Oper) : Bool := (idleB x && !effB x) || (idleB y && !effB y) || (!effB x && !effB y) || (ga == 1 && !effB x && laysB y) || (ga == 2 && (!effB x || !effB y))

def bitOf (b : Array Nat) (j i : Nat) : Bool := (b.getD j 0).testBit i

/-- The certificate b of who waits for whom is sound. -/
def certOk (ops : Array Oper) (b : Array Nat) : Bool :=
  (List.range ops.size).all fun j => (List.range ops.size).all fun i => !bitOf b j i ||
    (match ops[j]? with
     | some o => o.after.any fun e => Region.binds .any e && decide (e.on < j) && (e.on == i || bitOf b e.on i)
     | none => false)

def mixOk (ga : Nat) (ops : Array Oper) : Bool :=
  certOk ops (Region.before ops) &&
  (Region.noSelect ops &&
  ((ops.zipIdx.all fun (o, i) => o.after.all fun e => !Region.binds .any e || decide (e.on < i)) &&
  ((List.range ops.size).all fun i => (List.range ops.size).all fun j => !decide (i < j) || (bitOf (Region.before ops) j i ||
    (match ops[i]?, ops[j]? with
     | some x, some y => x.apart ops y && pairOk ga x y
     | _, _ => true)))))

def bot : Exit → Act → World → Prop := fun _ _ _ => False

section
variable {P : Program} {ops : Array Oper} {C : World → World → Prop} {J : World → Prop}

/-- What an effect does: the value that it hands back (and what it defers), and the world behind it. -/
def effS (P : Program) (s : Sem Next) (w : World) (K : Option Deferred → Value → World → Prop) : Prop :=
  match s.run P w with
  | .ok (.value v) w' => K none v w'
  | .ok .skip w' => K none undef w'
  | .ok (.defer d) w' => K (some d) undef w'
  | .ok (.enter f args) w' => Calls P f args w' fun
      | .returned v, w'' => K none v w''
      | _, _ => False
  | .ok (.row row args) w' => Rows P row args w' fun v w'' => K none v w''
  | _ => False

theorem effS_mono {s : Sem Next} {w : World} {K K' : Option Deferred → Value → World → Prop} (hK : ∀ d v w, K d v w → K' d v w) (h : effS P s w K) : effS P s w K' := by
  unfold effS at *
  generalize s.run P w = r at *
  cases r with
  | ok n w' =>
    cases n <;> first
      | exact hK _ _ _ h
      | exact Calls.mono h (fun e w'' he => by cases e <;> first | exact hK _ _ _ he | exact he)
      | exact Rows.mono h (fun _ _ he => hK _ _ _ he)
      | exact h
  | halt x w' => exact h

theorem effS_witness {s : Sem Next} {w : World} {K : Option Deferred → Value → World → Prop} (h : effS P s w K) : ∃ d v w', K d v w' := by
  unfold effS at h
  generalize s.run P w = r at *
  cases r with
  | ok n w' =>
    cases n <;> first
      | exact ⟨_, _, _, h⟩
      | (obtain ⟨e, w'', fr, hR, _⟩ := h []
         cases e <;> first
           | exact ⟨_, _, _, hR⟩
           | exact hR.elim)
      | (obtain ⟨v, w'', hR, _⟩ := h default []
         exact ⟨_, _, _, hR⟩)
      | exact h.elim
  | halt x w' => exact h.elim

/-- How one operation goes: passed over, an effect, or a value in every world of the class. -/
inductive Kind where
  | skip
  | eff
  | still
  deriving DecidableEq

def stepS (P : Program) (C : World → World → Prop) (J : World → Prop) (k : Kind) (s : Sem Next) (w : World) (K : Option Deferred → Value → World → Prop) : Prop :=
  match k with
  | .skip => K none undef w
  | .eff => effS P s w fun d v w' => J w' ∧ K d v w'
  | .still => ∃ v, (∀ w', C w w' → s.run P w' = .ok (.value v) w') ∧ K none v w

theorem stepS_mono {k : Kind} {s : Sem Next} {w : World} {K K' : Option Deferred → Value → World → Prop} (hw : J w) (hK : ∀ d v w, J w → K d v w → K' d v w) (h : stepS P C J k s w K) : stepS P C J k s w K' := by
  cases k with
  | skip => exact hK _ _ _ hw h
  | eff =>
    change effS P s w (fun d v w' => J w' ∧ K d v w') at h
    change effS P s w (fun d v w' => J w' ∧ K' d v w')
    exact effS_mono (fun d v w h => ⟨h.1, hK _ _ _ h.1 h.2⟩) h
  | still => obtain ⟨v, h1, h2⟩ := h; exact ⟨v, h1, hK _ _ _ hw h2⟩

theorem stepS_witness {k : Kind} {s : Sem Next} {w : World} {K : Option Deferred → Value → World → Prop} (hw : J w) (h : stepS P C J k s w K) : ∃ d v w', J w' ∧ K d v w' := by
  cases k with
  | skip => exact ⟨_, _, _, hw, h⟩
  | eff => exact effS_witness h
  | still => obtain ⟨v, h1, h2⟩ := h; exact ⟨_, _, _, hw, h2⟩

/-- A run that does not look at the world. -/
def Idle (P : Program) (s : Sem Next) : Prop := ∀ w n w', s.run P w = .ok n w' → w' = w ∧ ∀ u, s.run P u = .ok n u
/-- A run that lays one new block. -/
def Lays (P : Program) (s : Sem Next) : Prop := ∀ w n w', s.run P w = .ok n w' → ∃ v o, n = .value v ∧ w' = w.alloc o

/-- Which steps may change places. -/
def Swaps (P : Program) (C : World → World → Prop) (J : World → Prop) (ki kj : Kind) (si sj : Sem Next) : Prop :=
  ki = .skip ∨ kj = .skip ∨ (ki = .still ∧ Idle P si) ∨ (kj = .still ∧ Idle P sj) ∨ (ki = .still ∧ kj = .still) ∨
    (ki = .still ∧ kj = .eff ∧ Lays P sj ∧ ∀ w o w', C (w.alloc o) w' → C w w') ∨ ((ki = .still ∨ kj = .still) ∧ ∀ w w', C w w' ↔ J w')

theorem swap (hC : ∀ w, J w → C w w) {ki kj : Kind} {si sj : Sem Next} (hs : Swaps P C J ki kj si sj) {w : World} (hw : J w) {K : Option Deferred → Value → Option Deferred → Value → World → Prop}
    (h : stepS P C J ki si w fun d v w' => stepS P C J kj sj w' fun e u w'' => K d v e u w'') : stepS P C J kj sj w fun e u w' => stepS P C J ki si w' fun d v w'' => K d v e u w'' := by
  rcases hs with rfl | rfl | ⟨rfl, hi⟩ | ⟨rfl, hj⟩ | ⟨rfl, rfl⟩ | ⟨rfl, rfl, hl, hga⟩ | ⟨hs, hx⟩
  · exact h
  · exact stepS_mono hw (fun d v w _ h => h) h
  · obtain ⟨v, h1, h2⟩ := h
    refine stepS_mono hw (fun e u w' _ h3 => ?_) h2
    exact ⟨v, fun w'' _ => (hi w _ _ (h1 w (hC w hw))).2 w'', h3⟩
  · obtain ⟨d, v, w', hw', u, h1, h2⟩ := stepS_witness hw h
    have hall := (hj w' _ _ (h1 w' (hC w' hw'))).2
    refine ⟨u, fun w'' _ => hall w'', stepS_mono hw (fun d v w' hw' h3 => ?_) h⟩
    obtain ⟨u', h4, h5⟩ := h3
    have h6 := h4 w' (hC w' hw')
    rw [hall w'] at h6
    injection h6 with h6
    injection h6 with h6
    subst h6
    exact h5
  · obtain ⟨v, h1, u, h2, h3⟩ := h
    exact ⟨u, h2, v, h1, h3⟩
  · obtain ⟨v, h1, h2⟩ := h
    unfold stepS effS at h2
    unfold stepS effS
    simp only at h2 ⊢
    cases hr : sj.run P w with
    | ok n w' =>
      obtain ⟨u, o, rfl, rfl⟩ := hl _ _ _ hr
      rw [hr] at h2
      exact ⟨h2.1, v, fun w'' hw => h1 w'' (hga _ _ _ hw), h2.2⟩
    | halt x w' => rw [hr] at h2; exact h2.elim
  · rcases hs with rfl | rfl
    · obtain ⟨v, h1, h2⟩ := h
      exact stepS_mono hw (fun e u w' _ h3 => ⟨v, fun w'' hw'' => h1 w'' ((hx _ _).2 ((hx _ _).1 hw'')), h3⟩) h2
    · obtain ⟨d, v, w', hw', u, h1, h2⟩ := stepS_witness hw h
      refine ⟨u, fun w'' hw'' => h1 w'' ((hx _ _).2 ((hx _ _).1 hw'')), stepS_mono hw (fun d v w1 hw1 h3 => ?_) h⟩
      obtain ⟨u', h4, h5⟩ := h3
      have h6 := h4 w1 (hC w1 hw1)
      rw [h1 w1 ((hx _ _).2 hw1)] at h6
      injection h6 with h6
      injection h6 with h6
      subst h6
      exact h5

def kindOf (ops : Array Oper) (o : Oper) (a : Act) : Kind := if Region.wanted o (yielded ops a.tmps) = true then (if effB o = true then .eff else .still) else .skip

def putD (a : Act) (dst : Option Tmp) (d : Option Deferred) (v : Value) : Act :=
  match d with
  | none => a.put dst v
  | some d => ({ a with defers := d :: a.defers } : Act).put dst v

/-- Operation number i comes up. -/
def mOp (P : Program) (ops : Array Oper) (C : World → World → Prop) (J : World → Prop) (i : Nat) (K : Act → World → Prop) (a : Act) (w : World) : Prop :=
  match ops[i]? with
  | none => K a w
  | some o => stepS P C J (kindOf ops o a) (execOp a.eval o) w fun d v w' => K (putD a o.dst d v) w'

theorem mOp_mono {i : Nat} {K K' : Act → World → Prop} {a : Act} {w : World} (hw : J w) (hK : ∀ a w, J w → K a w → K' a w) (h : mOp P ops C J i K a w) : mOp P ops C J i K' a w := by
  unfold mOp at *
  cases ho : ops[i]? with
  | none => rw [ho] at h; exact hK _ _ hw h
  | some o => rw [ho] at h; exact stepS_mono hw (fun d v w' hw' h => hK _ _ hw' h) h

theorem mOp_witness {i : Nat} {K : Act → World → Prop} {a : Act} {w : World} (hw : J w) (h : mOp P ops C J i K a w) : ∃ a w, K a w := by
  unfold mOp at h
  cases ho : ops[i]? with
  | none => rw [ho] at h; exact ⟨_, _, h⟩
  | some o => rw [ho] at h; obtain ⟨d, v, w', _, h⟩ := stepS_witness hw h; exact ⟨_, _, h⟩

theorem putD_eval (o : Oper) (hs : ∀ cs b, o.op ≠ .select cs b) (a : Act) (dst : Option Tmp) (d : Option Deferred) (v : Value) (h : ∀ t, dst = some t → t ∉ o.looksAt ops) :
    execOp (putD a dst d v).eval o = execOp a.eval o := by
  cases d with
  | none => exact execOp_put o hs a dst v h
  | some d => exact execOp_put (ops := ops) o hs { a with defers := d :: a.defers } dst v h

theorem putD_kind (o : Oper) (a : Act) (dst : Option Tmp) (d : Option Deferred) (v : Value) (h : ∀ t, dst = some t → t ∉ o.looksAt ops) : kindOf ops o (putD a dst d v) = kindOf ops o a := by
  unfold kindOf
  cases d with
  | none => rw [show putD a dst none v = a.put dst v from rfl, wanted_put o a dst v h]
  | some d =>
    have := wanted_put (ops := ops) o { a with defers := d :: a.defers } dst v h
    rw [show putD a dst (some d) v = ({ a with defers := d :: a.defers } : Act).put dst v from rfl, this]

/-- Two steps of which one at most defers. -/
theorem putD_comm (a : Act) {x y : Option Tmp} (d e : Option Deferred) (v u : Value) (h : ∀ t, x = some t → y ≠ some t) (hde : d = none ∨ e = none) :
    putD (putD a x d v) y e u = putD (putD a y e u) x d v := by
  rcases hde with rfl | rfl
  · cases e with
    | none => exact Act.put_comm a v u h
    | some e =>
      show ({ a.put x v with defers := e :: (a.put x v).defers } : Act).put y u = (({ a with defers := e :: a.defers } : Act).put y u).put x v
      rw [Act.put_defers, Act.put_comm _ v u h]
  · cases d with
    | none => exact Act.put_comm a v u h
    | some d =>
      show (({ a with defers := d :: a.defers } : Act).put x v).put y u = ({ a.put y u with defers := d :: (a.put y u).defers } : Act).put x v
      rw [Act.put_defers, Act.put_comm _ v u h]

theorem idle_pure (n : Next) : Idle P (pure n) := by
  intro w n' w' hr
  simp only [Sem.run_pure, Result.ok.injEq] at hr
  obtain ⟨rfl, rfl⟩ := hr
  exact ⟨rfl, fun u => by simp only [Sem.run_pure]⟩
theorem idle_halt (h : Halt) : Idle P (Sem.halt h) := by
  intro w n' w' hr
  simp [Sem.run] at hr

theorem idle_of {o : Oper} (h : idleB o = true) (ρ : Operand → Value) : Idle P (execOp ρ o) := by
  unfold idleB at h
  unfold execOp
  split at h
  case h_1 x hx => simp only [hx]; exact idle_pure _
  case h_2 x hx => simp only [hx]; exact idle_pure _
  case h_3 c x y hx =>
    simp only [hx]
    cases ρ c <;> first | exact idle_pure _ | exact idle_halt _
  case h_4 t k hx =>
    simp only [hx, Instr.extract]
    cases ρ t <;> try exact idle_halt _
    rename_i vs
    cases hk : vs[k]? with
    | none => simp only [hk]; exact idle_halt _
    | some v => simp only [hk]; exact idle_pure _
  case h_5 t x hx =>
    simp only [hx, Instr.makeInterface]
    intro w n w' hr
    cases hu : P.underlying t with
    | none => simp [underlying, program, hu, stuck, Sem.run_bind, Sem.run, Result.andThen] at hr
    | some d =>
      cases d <;> simp [underlying, program, hu, stuck, Sem.run_bind, Sem.run_pure, Sem.run, Result.andThen] at hr ⊢
      all_goals (obtain ⟨rfl, rfl⟩ := hr; simp)
  case h_6 f l k hx => simp only [hx, Instr.makeFunc, pure_bind]; exact idle_pure _
  case h_7 => cases h

theorem lays_of {o : Oper} (h : laysB o = true) (ρ : Operand → Value) : Lays P (execOp ρ o) := by
  intro w n w' hr
  unfold laysB at h
  unfold execOp at hr
  split at h
  case h_1 e hx =>
    simp only [hx, Instr.alloc, newVar, newRow, newObj, zeroValue, Sem.run_bind] at hr
    cases h1 : (typeInfo e).run P w with
    | halt a b => simp [h1, Result.andThen] at hr
    | ok i w1 =>
      have hw : w1 = w := by
        unfold typeInfo at h1
        simp only [program, Sem.run_bind, Sem.run, Sem.run_pure, Result.andThen] at h1
        split at h1
        · simp only [Sem.run_pure, Result.ok.injEq] at h1; exact h1.2.symm
        · simp [stuck, Sem.run] at h1
      subst hw
      cases h2 : i.zero <;> simp [h1, h2, unsupported, Sem.run, Sem.run_pure, Result.andThen] at hr
      obtain ⟨rfl, rfl⟩ := hr
      exact ⟨_, _, rfl, rfl⟩
  case h_2 e x hx =>
    simp [hx, Instr.box, newVar, newRow, newObj, Sem.run_bind, Sem.run, Sem.run_pure, Result.andThen] at hr
    obtain ⟨rfl, rfl⟩ := hr
    exact ⟨_, _, rfl, rfl⟩
  case h_3 t len ps hx =>
    simp only [hx, Instr.buildSlice, underlying, program, sizeOf, typeInfo, zeroValue, Sem.run_bind, Sem.run, Sem.run_pure, Result.andThen] at hr
    cases hu : P.underlying t with
    | none => simp [hu, stuck, Sem.run] at hr
    | some d =>
      cases d <;> simp [hu, stuck, Sem.run, Sem.run_pure] at hr
      rename_i e
      cases hi : P.info? e with
      | none => simp [hi, stuck, Sem.run] at hr
      | some i =>
        simp [hi, Sem.run_pure] at hr
        split at hr
        · rename_i v w2 hh
          simp only [Result.ok.injEq] at hr
          obtain ⟨rfl, rfl⟩ := hr
          split at hh
          · cases hh
          · split at hh
            · split at hh
              · simp [newRow, newObj, Functor.map, Sem.bind, Sem.run, pure, bind] at hh
                exact ⟨_, _, rfl, hh.2.symm⟩
              · simp [Sem.run] at hh
            · cases hz : i.zero with
              | none => simp [hz, unsupported, Sem.run, Result.andThen] at hh
              | some z =>
                simp only [hz, Sem.run_pure, Result.andThen] at hh
                split at hh
                · simp [newRow, newObj, Functor.map, Sem.bind, Sem.run, pure, bind] at hh
                  exact ⟨_, _, rfl, hh.2.symm⟩
                · simp [Sem.run] at hh
        · cases hr
  case h_4 => cases h
theorem value_map {s : Sem Value} {w w' : World} {n : Next} (h : (s >>= fun x => pure (Next.value x)).run P w = .ok n w') : ∃ v, n = .value v := by
  rw [Sem.run_bind] at h
  cases hs : s.run P w with
  | halt a b => rw [hs] at h; cases h
  | ok x w1 =>
    rw [hs] at h
    simp only [Result.andThen, Sem.run_pure, Result.ok.injEq] at h
    exact ⟨x, h.1.symm⟩

theorem value_of {o : Oper} (he : effB o = false) {ρ : Operand → Value} {w w' : World} {n : Next} (h : (execOp ρ o).run P w = .ok n w') : ∃ v, n = .value v := by
  obtain ⟨dst, op, type, pos, after, guard⟩ := o
  unfold execOp at h
  cases op <;> simp only [effB] at he
  case move x => simp only [Sem.run_pure, Result.ok.injEq] at h; exact ⟨_, h.1.symm⟩
  case assign x => simp only [Sem.run_pure, Result.ok.injEq] at h; exact ⟨_, h.1.symm⟩
  case pick c x y =>
    simp only at h
    cases hc : ρ c <;> rw [hc] at h <;> simp only [asBool] at h
    case bool b => simp [Sem.run_pure] at h; exact ⟨_, h.1.symm⟩
    all_goals (simp [stuck, Sem.run] at h)
  case nilCheck x =>
    simp only at h
    split at h
    all_goals first
      | (simp [runtimePanic, program, goPanic, Sem.run] at h; done)
      | skip
    · split at h
      · simp [runtimePanic, program, goPanic, Sem.run] at h
      · rw [Sem.run_bind] at h
        cases hp : (program).run P w with
        | halt a b => rw [hp] at h; cases h
        | ok p w1 =>
          rw [hp] at h
          simp only [Result.andThen, Sem.run_bind] at h
          generalize Sem.run P _ w1 = r at h
          cases r with
          | halt a b => cases h
          | ok q w2 =>
            simp only [Result.andThen] at h
            split at h
            · simp [unsupported, Sem.run] at h
            · simp only [Sem.run_pure, pure_bind, Result.ok.injEq] at h
              exact ⟨_, h.1.symm⟩
      · simp only [Sem.run_pure, Result.ok.injEq] at h
        exact ⟨_, h.1.symm⟩
    · simp only [Sem.run_pure, Result.ok.injEq] at h
      exact ⟨_, h.1.symm⟩
  case call c =>
    obtain ⟨callee, args, argTypes⟩ := c
    cases callee <;> simp only [Bool.true_eq_false] at he
    rename_i b
    simp only [resolve, pure_bind, invoke] at h
    cases b <;> simp only [Bool.true_eq_false] at he
    all_goals (simp only [builtin] at h; exact value_map h)
  all_goals first
    | exact value_map h
    | (simp only [Bool.true_eq_false] at he)

theorem swaps_of {ga : Nat} (hga : ga = 1 → ∀ w o w', C (w.alloc o) w' → C w w') (hgx : ga = 2 → ∀ w w', C w w' ↔ J w') {x y : Oper} (h : pairOk ga x y = true) (a : Act) :
    Swaps P C J (kindOf ops x a) (kindOf ops y a) (execOp a.eval x) (execOp a.eval y) := by
  unfold kindOf
  by_cases hx : Region.wanted x (yielded ops a.tmps) = true
  · by_cases hy : Region.wanted y (yielded ops a.tmps) = true
    · rw [if_pos hx, if_pos hy]
      simp only [pairOk, Bool.or_eq_true, Bool.and_eq_true, Bool.not_eq_true', beq_iff_eq] at h
      rcases h with (((⟨h1, h2⟩ | ⟨h1, h2⟩) | ⟨h1, h2⟩) | ⟨⟨h1, h2⟩, h3⟩) | ⟨h1, h2⟩
      · exact .inr (.inr (.inl ⟨by rw [h2]; rfl, idle_of h1 _⟩))
      · exact .inr (.inr (.inr (.inl ⟨by rw [h2]; rfl, idle_of h1 _⟩)))
      · exact .inr (.inr (.inr (.inr (.inl ⟨by rw [h1]; rfl, by rw [h2]; rfl⟩))))
      · by_cases hey : effB y = true
        · exact .inr (.inr (.inr (.inr (.inr (.inl ⟨by rw [h2]; rfl, by rw [if_pos hey], lays_of h3 _, hga h1⟩)))))
        · have hey : effB y = false := by simpa using hey
          exact .inr (.inr (.inr (.inr (.inl ⟨by rw [h2]; rfl, by rw [hey]; rfl⟩))))
      · exact .inr (.inr (.inr (.inr (.inr (.inr ⟨h2.imp (fun h => by rw [h]; rfl) (fun h => by rw [h]; rfl), hgx h1⟩)))))
    · rw [if_neg hy]; exact .inr (.inl rfl)
  · rw [if_neg hx]; exact .inl rfl

theorem stepS_none {k : Kind} {s : Sem Next} {w : World} {K : Option Deferred → Value → World → Prop} (hk : k ≠ .eff) (h : stepS P C J k s w K) :
    stepS P C J k s w (fun d v w' => d = none ∧ K d v w') := by
  cases k with
  | skip => exact ⟨rfl, h⟩
  | eff => exact absurd rfl hk
  | still => obtain ⟨v, h1, h2⟩ := h; exact ⟨v, h1, rfl, h2⟩

theorem swaps_one {ki kj : Kind} {si sj : Sem Next} (h : Swaps P C J ki kj si sj) : ki ≠ .eff ∨ kj ≠ .eff := by
  rcases h with rfl | rfl | ⟨rfl, _⟩ | ⟨rfl, _⟩ | ⟨rfl, _⟩ | ⟨rfl, _⟩ | ⟨rfl | rfl, _⟩
  · exact .inl (by simp)
  · exact .inr (by simp)
  · exact .inl (by simp)
  · exact .inr (by simp)
  · exact .inl (by simp)
  · exact .inl (by simp)
  · exact .inl (by simp)
  · exact .inr (by simp)

theorem mOp_swap (hC : ∀ w, J w → C w w) {ga : Nat} (hga : ga = 1 → ∀ w o w', C (w.alloc o) w' → C w w') (hgx : ga = 2 → ∀ w w', C w w' ↔ J w') {i j : Nat} {x y : Oper} (hi : ops[i]? = some x) (hj : ops[j]? = some y)
    (hsx : ∀ cs b, x.op ≠ .select cs b) (hsy : ∀ cs b, y.op ≠ .select cs b) (hap : x.apart ops y = true) (hp : pairOk ga x y = true) {K : Act → World → Prop} {a : Act} {w : World} (hw : J w)
    (h : mOp P ops C J i (mOp P ops C J j K) a w) : mOp P ops C J j (mOp P ops C J i K) a w := by
  obtain ⟨h1, h2, h3⟩ := Oper.apart_spec hap
  have hsw := swaps_of (P := P) (C := C) (J := J) (ops := ops) hga hgx hp a
  unfold mOp at *
  simp only [hi, hj] at *
  have e1 : ∀ d v, execOp (putD a x.dst d v).eval y = execOp a.eval y := fun d v => putD_eval y hsy a x.dst d v h1
  have e2 : ∀ d v, execOp (putD a y.dst d v).eval x = execOp a.eval x := fun d v => putD_eval x hsx a y.dst d v h3
  have k1 : ∀ d v, kindOf ops y (putD a x.dst d v) = kindOf ops y a := fun d v => putD_kind y a x.dst d v h1
  have k2 : ∀ d v, kindOf ops x (putD a y.dst d v) = kindOf ops x a := fun d v => putD_kind x a y.dst d v h3
  simp only [e1, k1] at h
  simp only [e2, k2]
  rcases swaps_one hsw with hk | hk
  · have h' := stepS_none hk h
    have h4 : stepS P C J (kindOf ops x a) (execOp a.eval x) w fun d v w' => stepS P C J (kindOf ops y a) (execOp a.eval y) w' fun e u w'' => K (putD (putD a y.dst e u) x.dst d v) w'' := by
      refine stepS_mono hw (fun d v w' hw' hh => ?_) h'
      obtain ⟨rfl, hh⟩ := hh
      exact stepS_mono hw' (fun e u w'' _ hh => by rw [← putD_comm a none e v u h2 (.inl rfl)]; exact hh) hh
    exact swap hC hsw hw h4
  · have h4 : stepS P C J (kindOf ops x a) (execOp a.eval x) w fun d v w' => stepS P C J (kindOf ops y a) (execOp a.eval y) w' fun e u w'' => K (putD (putD a y.dst e u) x.dst d v) w'' := by
      refine stepS_mono hw (fun d v w' hw' hh => ?_) h
      exact stepS_mono hw' (fun e u w'' _ hh => by obtain ⟨rfl, hh⟩ := hh; rw [← putD_comm a d none v u h2 (.inr rfl)]; exact hh) (stepS_none hk hh)
    exact swap hC hsw hw h4

/-- Whatever order is picked from here on. -/
def anyM (P : Program) (ops : Array Oper) (C : World → World → Prop) (J : World → Prop) (Q : Act → World → Prop) : Nat → Array Bool → Act → World → Prop
  | 0, listed, a, w => Region.ready .any ops listed = [] ∧ Q a w
  | fuel + 1, listed, a, w => (Region.ready .any ops listed = [] → Q a w) ∧ ∀ i ∈ Region.ready .any ops listed, mOp P ops C J i (anyM P ops C J Q fuel (listed.setIfInBounds i true)) a w

def Closed (ops : Array Oper) (listed : Array Bool) : Prop :=
  ∀ j o, ops[j]? = some o → listed.getD j false = true → ∀ e ∈ o.after, Region.binds .any e = true → listed.getD e.on false = true

theorem Closed.set {listed : Array Bool} (h : Closed ops listed) {i : Nat} (hi : i ∈ Region.ready .any ops listed) : Closed ops (listed.setIfInBounds i true) := by
  obtain ⟨_, oi, hoi, hall⟩ := mem_ready.1 hi
  intro j o hj hl e he hb
  by_cases hij : i = j
  · subst hij
    rw [hoi] at hj
    injection hj with hj
    subst hj
    exact getD_set_true (hall e he hb)
  · rw [getD_set_ne false hij] at hl
    exact getD_set_true (h j o hj hl e he hb)

theorem cert_spec {b : Array Nat} (h : certOk ops b = true) {j i : Nat} (hj : j < ops.size) (hi : i < ops.size) (hb : bitOf b j i = true) :
    ∃ o, ops[j]? = some o ∧ ∃ e ∈ o.after, Region.binds .any e = true ∧ e.on < j ∧ (e.on = i ∨ bitOf b e.on i = true) := by
  unfold certOk at h
  have h1 := List.all_eq_true.1 (List.all_eq_true.1 h j (List.mem_range.2 hj)) i (List.mem_range.2 hi)
  rw [hb] at h1
  have h1 : (match ops[j]? with
     | some o => o.after.any fun e => Region.binds .any e && decide (e.on < j) && (e.on == i || bitOf b e.on i)
     | none => false) = true := by simpa using h1
  split at h1
  · rename_i o ho
    obtain ⟨e, he, hb'⟩ := Array.any_eq_true'.1 h1
    simp only [Bool.and_eq_true, decide_eq_true_eq, Bool.or_eq_true, beq_iff_eq] at hb'
    exact ⟨o, ho, e, he, hb'.1.1, hb'.1.2, hb'.2⟩
  · cases h1

theorem cert_listed {b : Array Nat} (h : certOk ops b = true) {listed : Array Bool} (hcl : Closed ops listed) {i : Nat} (hi : i < ops.size) :
    ∀ (n j : Nat), j ≤ n → j < ops.size → bitOf b j i = true → listed.getD j false = true → listed.getD i false = true := by
  intro n
  induction n with
  | zero =>
    intro j hjn hj hb hl
    obtain ⟨o, ho, e, he, hbi, hlt, _⟩ := cert_spec h hj hi hb
    omega
  | succ n ih =>
    intro j hjn hj hb hl
    obtain ⟨o, ho, e, he, hbi, hlt, hor⟩ := cert_spec h hj hi hb
    have hle := hcl j o ho hl e he hbi
    rcases hor with rfl | hor
    · exact hle
    · exact ih e.on (by omega) (by omega) hor hle

theorem cert_ready {b : Array Nat} (h : certOk ops b = true) {listed : Array Bool} (hcl : Closed ops listed) {i j : Nat} (hi : i < ops.size) (hj : j ∈ Region.ready .any ops listed)
    (hb : bitOf b j i = true) : listed.getD i false = true := by
  obtain ⟨_, o, ho, hall⟩ := mem_ready.1 hj
  have hjs : j < ops.size := (Array.getElem?_eq_some_iff.1 ho).1
  obtain ⟨o', ho', e, he, hbi, hlt, hor⟩ := cert_spec h hjs hi hb
  rw [ho] at ho'
  injection ho' with ho'
  subst ho'
  have hle := hall e he hbi
  rcases hor with rfl | hor
  · exact hle
  · exact cert_listed h hcl hi e.on e.on (Nat.le_refl _) (by omega) hor hle

structure Static (ga : Nat) (ops : Array Oper) : Prop where
  cert : certOk ops (Region.before ops) = true
  sel : Region.noSelect ops = true
  back : ∀ (i : Nat) (o : Oper), ops[i]? = some o → ∀ e ∈ o.after, Region.binds .any e = true → e.on < i
  pairs : ∀ (i j : Nat) (x y : Oper), ops[i]? = some x → ops[j]? = some y → i < j → bitOf (Region.before ops) j i = true ∨ (x.apart ops y = true ∧ pairOk ga x y = true)

theorem static_of {ga : Nat} (h : mixOk ga ops = true) : Static ga ops := by
  simp only [mixOk, Bool.and_eq_true] at h
  obtain ⟨h1, h2, h3, h4⟩ := h
  refine ⟨h1, h2, fun i o ho e he hb => ?_, fun i j x y hx hy hij => ?_⟩
  · have h5 := Array.all_eq_true_iff_forall_mem.1 h3 (o, i) (by
      rw [Array.mem_iff_getElem?]
      exact ⟨i, by simp [Array.getElem?_zipIdx, ho]⟩)
    have h6 := Array.all_eq_true_iff_forall_mem.1 h5 e he
    simpa [hb] using h6
  · have hi : i < ops.size := (Array.getElem?_eq_some_iff.1 hx).1
    have hj : j < ops.size := (Array.getElem?_eq_some_iff.1 hy).1
    have h5 := List.all_eq_true.1 (List.all_eq_true.1 h4 i (List.mem_range.2 hi)) j (List.mem_range.2 hj)
    simp only [hx, hy, hij, decide_true, Bool.not_true, Bool.false_or, Bool.or_eq_true, Bool.and_eq_true] at h5
    exact h5

/-- The first operation, in the order of the text, of those that are left may be taken first. -/
theorem anyM_first (hC : ∀ w, J w → C w w) {ga : Nat} (hga : ga = 1 → ∀ w o w', C (w.alloc o) w' → C w w') (hgx : ga = 2 → ∀ w w', C w w' ↔ J w') (hst : Static ga ops) {Q : Act → World → Prop} {i : Nat} {x : Oper} (hi : ops[i]? = some x) :
    ∀ (fuel : Nat) (listed : Array Bool) (a : Act) (w : World), J w → Closed ops listed → (∀ m, m < i → listed.getD m false = true) → i ∈ Region.ready .any ops listed →
      mOp P ops C J i (anyM P ops C J Q fuel (listed.setIfInBounds i true)) a w → anyM P ops C J Q (fuel + 1) listed a w := by
  have his : i < ops.size := (Array.getElem?_eq_some_iff.1 hi).1
  intro fuel
  induction fuel with
  | zero =>
    intro listed a w hw hcl hlow hr H
    refine ⟨fun h => (by rw [h] at hr; cases hr), fun j hj => ?_⟩
    by_cases hji : j = i
    · subst hji; exact H
    · obtain ⟨a', w', h0, _⟩ := mOp_witness hw H
      have := ready_mono hj hji
      rw [h0] at this
      cases this
  | succ fuel ih =>
    intro listed a w hw hcl hlow hr H
    refine ⟨fun h => (by rw [h] at hr; cases hr), fun j hj => ?_⟩
    by_cases hji : j = i
    · subst hji; exact H
    · obtain ⟨hjun, y, hy, hall⟩ := mem_ready.1 hj
      have hij : i < j := by
        rcases Nat.lt_or_ge i j with h | h
        · exact h
        · have h1 := hlow j (by omega)
          rcases Nat.lt_or_ge j listed.size with h' | h'
          · simp [h'] at hjun h1; rw [hjun] at h1; cases h1
          · simp [Array.getElem?_eq_none h'] at h1
      have hiun := (mem_ready.1 hr).1
      have hilt : i < listed.size := by
        rcases Nat.lt_or_ge i listed.size with h' | h'
        · exact h'
        · simp [Array.getElem?_eq_none h'] at hiun
      have hnb : ¬ bitOf (Region.before ops) j i = true := fun hb => by
        have h1 := cert_ready hst.cert hcl his hj hb
        simp [hilt] at hiun h1
        rw [hiun] at h1
        cases h1
      obtain ⟨hap, hpk⟩ := (hst.pairs i j x y hi hy hij).resolve_left hnb
      have H2 : mOp P ops C J i (mOp P ops C J j (anyM P ops C J Q fuel ((listed.setIfInBounds i true).setIfInBounds j true))) a w :=
        mOp_mono hw (fun a' w' _ h => h.2 j (ready_mono hj hji)) H
      have H3 := mOp_swap hC hga hgx hi hy (fun cs b => Region.noSelect_spec hst.sel i x cs b hi) (fun cs b => Region.noSelect_spec hst.sel j y cs b hy) hap hpk hw H2
      refine mOp_mono hw (fun a' w' hw' h => ih (listed.setIfInBounds j true) a' w' hw' (hcl.set hj) (fun m hm => getD_set_true (hlow m hm)) (ready_mono hr (Ne.symm hji)) ?_) H3
      rw [Array.setIfInBounds_comm _ _ hji]
      exact h

/-- The walk in the order of the text. -/
def walk (P : Program) (ops : Array Oper) (C : World → World → Prop) (J : World → Prop) (Q : Exit → Act → World → Prop) : List Oper → Act → World → Prop
  | [], a, w => Q .normal a w
  | o :: rest, a, w => if effB o = true then wpList P ops (Exit.then (fun a w => J w ∧ walk P ops C J Q rest a w) bot) [o] a w else wpQuiet P ops (C w) (fun a' => walk P ops C J Q rest a' w) [o] a

theorem walk_nil {Q : Exit → Act → World → Prop} {a : Act} {w : World} (h : Q .normal a w) : walk P ops C J Q [] a w := h
theorem walk_e {Q : Exit → Act → World → Prop} {o : Oper} {rest : List Oper} {a : Act} {w : World} (he : effB o = true)
    (h : ∀ K : Act → World → Prop, Go.RowKit.Hid (∀ a w, walk P ops C (fun _ => True) Q rest a w → K a w) → wpList P ops (Exit.then K bot) [o] a w) : walk P ops C (fun _ => True) Q (o :: rest) a w := by
  unfold walk
  rw [if_pos he]
  exact h _ fun _ _ h => ⟨trivial, h⟩
theorem walk_j {Q : Exit → Act → World → Prop} {o : Oper} {rest : List Oper} {a : Act} {w : World} (he : effB o = true)
    (h : ∀ K : Act → World → Prop, Go.RowKit.Hid (∀ a w, J w → walk P ops C J Q rest a w → K a w) → wpList P ops (Exit.then K bot) [o] a w) : walk P ops C J Q (o :: rest) a w := by
  unfold walk
  rw [if_pos he]
  exact h _ fun _ _ hj h => ⟨hj, h⟩
theorem walk_q {Q : Exit → Act → World → Prop} {o : Oper} {rest : List Oper} {a : Act} {w : World} (he : effB o = false)
    (h : wpQuiet P ops (C w) (fun a' => walk P ops C J Q rest a' w) [o] a) : walk P ops C J Q (o :: rest) a w := by
  unfold walk
  rw [he]
  exact h

theorem eff_of_wp {o : Oper} {a : Act} {w : World} {K : Act → World → Prop} (h : o.wp P a w K bot) : effS P (execOp a.eval o) w fun d v w' => K (putD a o.dst d v) w' := by
  unfold Oper.wp at h
  unfold effS
  generalize (execOp a.eval o).run P w = r at *
  cases r with
  | ok n w' =>
    cases n <;> simp only [Oper.upon] at h ⊢ <;> first
      | exact h
      | exact Calls.mono h (fun e w'' he => by
          cases e with
          | returned v => exact he
          | panicked c => exact he.elim
          | outgrown => obtain ⟨_, _, he⟩ := he; exact he.elim)
  | halt x w' => cases x <;> simp only [Oper.upon] at h <;> exact h.elim

theorem wp_of_eff {o : Oper} {a : Act} {w : World} {K : Act → World → Prop} {Q : Exit → Act → World → Prop} (h : effS P (execOp a.eval o) w fun d v w' => K (putD a o.dst d v) w') : o.wp P a w K Q := by
  unfold Oper.wp
  unfold effS at h
  generalize (execOp a.eval o).run P w = r at *
  cases r with
  | ok n w' =>
    cases n <;> simp only [Oper.upon] at h ⊢ <;> first
      | exact h
      | exact Calls.mono h (fun e w'' he => by
          cases e with
          | returned v => exact he
          | panicked c => exact he.elim
          | outgrown => exact he.elim)
  | halt x w' => exact h.elim

/-- One step of the walk, as 'mOp' has it. -/
theorem mOp_of_walk {Q : Exit → Act → World → Prop} {i : Nat} {o : Oper} {rest : List Oper} {a : Act} {w : World} (hi : ops[i]? = some o) (h : walk P ops C J Q (o :: rest) a w) :
    mOp P ops C J i (walk P ops C J Q rest) a w := by
  unfold walk at h
  unfold mOp
  simp only [hi]
  by_cases he : effB o = true
  · rw [if_pos he] at h
    unfold wpList at h
    by_cases hw : Region.wanted o (yielded ops a.tmps) = true
    · rw [if_pos hw] at h
      rcases h with h | ⟨_, a0, w0, h⟩
      · rw [show kindOf ops o a = .eff by unfold kindOf; rw [if_pos hw, if_pos he]]
        exact eff_of_wp (K := fun a w => J w ∧ walk P ops C J Q rest a w) (Oper.wp_mono (fun a' w' h => h) (by
          have : ∀ {a' w'} {K : Act → World → Prop}, wpList P ops (Exit.then K bot) [] a' w' = K a' w' := rfl
          refine Oper.wp_mono (K := wpList P ops (Exit.then (fun a w => J w ∧ walk P ops C J Q rest a w) bot) []) (fun a' w' h => h) ?_
          revert h
          unfold Oper.wp
          generalize (execOp a.eval o).run P w = r
          cases r with
          | ok n w' =>
            cases n <;> simp only [Oper.upon] <;> intro h <;> first
              | exact h
              | exact Calls.mono h (fun e w'' he => by
                  cases e with
                  | returned v => exact he
                  | panicked c => exact he
                  | outgrown => obtain ⟨_, _, he⟩ := he; exact he.elim)
          | halt x w' => cases x <;> simp only [Oper.upon] <;> intro h <;> exact h))
      · exact h.elim
    · rw [if_neg hw] at h
      rw [show kindOf ops o a = .skip by unfold kindOf; rw [if_neg hw]]
      exact (show J w ∧ walk P ops C J Q rest (a.put o.dst undef) w from h).2
  · have he' : effB o = false := by simpa using he
    rw [if_neg he] at h
    unfold wpQuiet at h
    by_cases hw : Region.wanted o (yielded ops a.tmps) = true
    · rw [if_pos hw] at h
      rw [show kindOf ops o a = .still by unfold kindOf; rw [if_pos hw, if_neg he]]
      obtain ⟨v, h1, h2⟩ := h
      refine ⟨v, fun w' hw' => ?_, h2⟩
      have h3 := h1 w' hw'
      unfold Oper.quietAt at h3
      cases hr : (execOp a.eval o).run P w' with
      | halt x w'' => rw [hr] at h3; simp only [Oper.quietUpon] at h3
      | ok n w'' =>
        rw [hr] at h3
        obtain ⟨u, rfl⟩ := value_of he' hr
        simp only [Oper.quietUpon] at h3
        obtain ⟨rfl, rfl⟩ := h3
        rfl
    · rw [if_neg hw] at h
      rw [show kindOf ops o a = .skip by unfold kindOf; rw [if_neg hw]]
      exact h

theorem anyM_of_walk (hC : ∀ w, J w → C w w) {ga : Nat} (hga : ga = 1 → ∀ w o w', C (w.alloc o) w' → C w w') (hgx : ga = 2 → ∀ w w', C w w' ↔ J w') (hst : Static ga ops) {Q : Exit → Act → World → Prop} :
    ∀ (l : List Oper) (k : Nat) (listed : Array Bool) (a : Act) (w : World), (∀ j, l[j]? = ops[k + j]?) → k + l.length = ops.size → listed.size = ops.size →
      (∀ m, m < ops.size → listed.getD m true = decide (m < k)) → J w → walk P ops C J Q l a w → anyM P ops C J (Q .normal) l.length listed a w := by
  intro l
  induction l with
  | nil =>
    intro k listed a w hl hk hs hls hw h
    refine ⟨?_, h⟩
    rw [List.eq_nil_iff_forall_not_mem]
    intro j hj
    obtain ⟨h1, o, ho, _⟩ := mem_ready.1 hj
    have hjs : j < ops.size := (Array.getElem?_eq_some_iff.1 ho).1
    rw [hls j hjs] at h1
    simp only [List.length_nil, Nat.add_zero] at hk
    simp at h1
    omega
  | cons o rest ih =>
    intro k listed a w hl hk hs hls hw h
    have h0 : ops[k]? = some o := by simpa using (hl 0).symm
    have hks : k < ops.size := (Array.getElem?_eq_some_iff.1 h0).1
    have both : ∀ m, m < ops.size → listed.getD m false = listed.getD m true := fun m hm => by simp [hs, hm]
    have hr : k ∈ Region.ready .any ops listed := by
      rw [mem_ready]
      refine ⟨by rw [hls k hks]; simp, o, h0, fun e he hb => ?_⟩
      have := hst.back k o h0 e he hb
      rw [both e.on (by omega), hls e.on (by omega)]
      simpa using this
    have hcl : Closed ops listed := by
      intro j oj hj hlj e he hb
      have hjs : j < ops.size := (Array.getElem?_eq_some_iff.1 hj).1
      have := hst.back j oj hj e he hb
      rw [both j hjs, hls j hjs] at hlj
      rw [both e.on (by omega), hls e.on (by omega)]
      simp at hlj ⊢
      omega
    refine anyM_first hC hga hgx hst h0 rest.length listed a w hw hcl (fun m hm => by rw [both m (by omega), hls m (by omega)]; simpa using hm) hr ?_
    refine mOp_mono hw (fun a' w' hw' h' => ?_) (mOp_of_walk h0 h)
    refine ih (k + 1) (listed.setIfInBounds k true) a' w' (fun j => by have := hl (j + 1); simpa [Nat.add_assoc, Nat.add_comm 1 j] using this) (by simp only [List.length_cons] at hk; omega) (by simpa using hs) (fun m hm => ?_) hw' h'
    by_cases hmk : k = m
    · subst hmk
      simp [hs, hks]
    · rw [getD_set_ne true hmk, hls m hm]
      simp only [decide_eq_decide]
      omega

theorem any_of_anyM (hC : ∀ w, J w → C w w) {Q : Exit → Act → World → Prop} : ∀ (fuel : Nat) (listed : Array Bool) (a : Act) (w : World), J w → anyM P ops C J (Q .normal) fuel listed a w →
    wpAny P .any ops (Exit.then (Q .normal) bot) fuel listed a w
  | 0, _, _, _, _, h => h
  | fuel + 1, listed, a, w, hJ, h => by
    refine ⟨h.1, fun i hi => ?_⟩
    have h1 := mOp_mono hJ (fun a w hw h => any_of_anyM hC (Q := Q) fuel _ a w hw h) (h.2 i hi)
    unfold mOp at h1
    unfold wpOp
    cases ho : ops[i]? with
    | none => rw [ho] at h1; exact h1
    | some o =>
      simp only [ho] at h1 ⊢
      unfold kindOf at h1
      by_cases hw : Region.wanted o (yielded ops a.tmps) = true
      · rw [if_pos hw] at h1
        rw [if_pos hw]
        by_cases he : effB o = true
        · rw [if_pos he] at h1
          exact .inl (wp_of_eff (effS_mono (P := P) (K := fun d v w' => J w' ∧ wpAny P .any ops (Exit.then (Q .normal) bot) fuel (listed.setIfInBounds i true) (putD a o.dst d v) w') (fun d v w h => h.2) h1))
        · rw [if_neg he] at h1
          obtain ⟨v, h2, h3⟩ := h1
          refine .inl ?_
          unfold Oper.wp
          rw [h2 w (hC w hJ)]
          exact h3
      · rw [if_neg hw] at h1
        rw [if_neg hw]
        exact h1
end

theorem wp_region_walk {P : Program} {C : World → World → Prop} {J : World → Prop} (hC : ∀ w, J w → C w w) {ga : Nat} (hga : ga = 1 → ∀ w o w', C (w.alloc o) w' → C w w') (hgx : ga = 2 → ∀ w w', C w w' ↔ J w') {id : Nat} {l : List Oper} {Q : Exit → Act → World → Prop} {a : Act} {w : World}
    (hm : P.follows .mixedOrders = true) (hB : mixOk ga l.toArray = true) (hw : J w.drew) (h : walk P l.toArray C J Q l a w.drew) : (Code.region id l.toArray true).wp P Q a w := by
  have h1 := anyM_of_walk hC hga hgx (static_of hB) l 0 (Array.replicate l.toArray.size false) a w.drew (by simp) (by simp) (by simp) (fun m hm => by simp at hm; simp [hm]) hw h
  have h2 := any_of_anyM hC (Q := Q) _ _ _ _ hw h1
  refine Code.wp_mono (Q := Exit.then (Q .normal) bot) (fun e a w h => ?_) (wp_region_any hm (by simpa using h2))
  cases e <;> first | exact h | exact h.elim

/-- Reads that are ordered against all that acts. -/
theorem region {P : Program} {id : Nat} {l : List Oper} {Q : Exit → Act → World → Prop} {a : Act} {w : World} (hm : P.follows .mixedOrders = true) (hB : mixOk 0 l.toArray = true)
    (h : walk P l.toArray (fun w w' => ∃ n, w' = w.drewN n) (fun _ => True) Q l a w.drew) : (Code.region id l.toArray true).wp P Q a w :=
  wp_region_walk (fun w _ => ⟨0, rfl⟩) (fun h => by cases h) (fun h => by cases h) hm hB trivial h

/-- A world with more blocks, after whatever draws. -/
structure More where
  d : Nat
  os : Array Obj
instance : Inhabited More := ⟨⟨0, #[]⟩⟩
def ext (w : World) (p : More) : World := { w with heap := w.heap ++ p.os, drawn := p.d }
theorem cell_ext {w : World} {a : Addr} {v : Value} (h : w.cell? a = some v) (p : More) : (ext w p).cell? a = some v := by
  unfold World.cell? at *
  have hlt : a.block < w.heap.size := by
    rcases Nat.lt_or_ge a.block w.heap.size with hl | hl
    · exact hl
    · rw [Array.getElem?_eq_none hl] at h; cases h
  rw [show (ext w p).heap[a.block]? = w.heap[a.block]? by simp [ext, Array.getElem?_append, hlt]]
  exact h
theorem obj_ext {w : World} {k : Nat} {o : Obj} (h : w.heap[k]? = some o) (p : More) : (ext w p).heap[k]? = some o := by
  have hlt : k < w.heap.size := by
    rcases Nat.lt_or_ge k w.heap.size with hl | hl
    · exact hl
    · rw [Array.getElem?_eq_none hl] at h; cases h
  rw [← h]
  simp [ext, Array.getElem?_append, hlt]

theorem ext_of_below {w w' : World} (h : Go.RowKit.Below w.heap.size w w') : ∃ p : More, w' = ext w p := by
  refine ⟨⟨w'.drawn, w'.heap.extract w.heap.size w'.heap.size⟩, ?_⟩
  obtain ⟨heap', tape', drawn', os', output'⟩ := w'
  have e1 : os' = w.os := h.os
  have e2 : tape' = w.tape := h.tape
  have e3 : output' = w.output := h.output
  have hs : w.heap.size ≤ heap'.size := h.size
  have hb : ∀ k, k < w.heap.size → heap'[k]? = w.heap[k]? := h.block
  subst e1 e2 e3
  have eh : heap' = w.heap ++ heap'.extract w.heap.size heap'.size := by
    apply Array.ext_getElem?
    intro k
    by_cases hk : k < w.heap.size
    · rw [Array.getElem?_append_left hk]; exact hb k hk
    · rw [Array.getElem?_append_right (by omega), Array.getElem?_extract]
      by_cases hk2 : k < heap'.size
      · rw [if_pos (by omega)]; congr 1; omega
      · rw [if_neg (by omega), Array.getElem?_eq_none (by omega)]
  simp only [ext]
  congr 1
theorem below_ext (w : World) (p : More) : Go.RowKit.Below w.heap.size w (ext w p) :=
  ⟨rfl, rfl, rfl, by simp [ext], fun k hk => by simp [ext, Array.getElem?_append, hk]⟩

/-- Reads that stand ahead of what only lays a new block, too. The reads are shown in every world with more blocks. -/
theorem regionG {P : Program} {id : Nat} {l : List Oper} {Q : Exit → Act → World → Prop} {a : Act} {w : World} (hm : P.follows .mixedOrders = true) (hB : mixOk 1 l.toArray = true)
    (h : walk P l.toArray (fun w w' => ∃ p : More, w' = ext w p) (fun _ => True) Q l a w.drew) : (Code.region id l.toArray true).wp P Q a w :=
  wp_region_walk (fun w _ => ⟨⟨w.drawn, #[]⟩, by simp [ext]⟩) (fun _ w o w' ⟨p, hp⟩ => ⟨⟨p.d, #[o] ++ p.os⟩, by
    subst hp
    simp only [ext, World.alloc]
    congr 1
    rw [← Array.append_assoc, Array.push_eq_append]⟩) (fun h => by cases h) hm hB trivial h

/-- Calls that only lay blocks beside reads, in whatever order: the reads are shown in every world with more blocks than the first. -/
theorem regionX {P : Program} {id : Nat} {l : List Oper} {Q : Exit → Act → World → Prop} {a : Act} {w : World} (hm : P.follows .mixedOrders = true) (hB : mixOk 2 l.toArray = true)
    (h : walk P l.toArray (fun _ w' => ∃ p : More, w' = ext w.drew p) (fun w' => ∃ p : More, w' = ext w.drew p) Q l a w.drew) : (Code.region id l.toArray true).wp P Q a w :=
  wp_region_walk (fun _ h => h) (fun h => by cases h) (fun _ _ _ => Iff.rfl) hm hB ⟨⟨w.drew.drawn, #[]⟩, by unfold ext; simp only [Array.append_empty]⟩ h
theorem walk_x {P : Program} {ops : Array Oper} {C : World → World → Prop} {w0 : World} {Q : Exit → Act → World → Prop} {o : Oper} {rest : List Oper} {a : Act} {w : World} (he : effB o = true)
    (h : ∀ K : Act → World → Prop, Go.RowKit.Hid (∀ a w, Go.RowKit.Below w0.heap.size w0 w → walk P ops C (fun w' => ∃ p : More, w' = ext w0 p) Q rest a w → K a w) → wpList P ops (Exit.then K bot) [o] a w) :
    walk P ops C (fun w' => ∃ p : More, w' = ext w0 p) Q (o :: rest) a w :=
  walk_j he fun K hK => h K fun a w hb hw => hK.out a w (ext_of_below hb) hw

end Mix
end Go.Proofs.Ytmjnffjacgjfmaa
